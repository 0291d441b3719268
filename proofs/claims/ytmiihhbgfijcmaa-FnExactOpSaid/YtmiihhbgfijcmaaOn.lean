/- Put together from Oo, On. -/
import Derived.Test.YtmiihhbgfijcmaaOv
/- Op: the program, walked: same, order, and, or. -/
namespace Go.Proofs.Ytmiihhbgfijcmaa.K
open Go Go.RowKit
set_option linter.unusedVariables false
set_option linter.unusedSimpArgs false
set_option maxRecDepth 20000
theorem knd_calls (F : Fz) (w0 : World) (hF : Sub F (hv w0)) {t : T} {a : Value} (h : Arg F t a) : Calls Try.prog 73 #[a] w0 (PI F w0 t.atom.k) := by
  obtain ⟨k, v, _, hi, hr⟩ := h.inner
  have e : kindV v = t.atom.k := by cases hi <;> simp only [kindV] <;> omega
  rw [← e]
  exact kindOf_calls F w0 hF v a hr
theorem ord_calls (F : Fz) (w0 : World) (hF : Sub F (hv w0)) {t u : T} {a b : Value} (ha : Arg F t a) (hb : Arg F u b) : Calls Try.prog 45 #[a, b] w0 (PI F w0 (ordT t u)) := by
  obtain ⟨it, h1, h2⟩ := ha.ev
  obtain ⟨iu, h3, h4⟩ := hb.ev
  exact order_calls _ F w0 hF t u it iu a b ha.vt.wf hb.vt.wf h1 h3 h2 h4 rfl
def T4V (a : Value) (x ok : Bool) : Prop := (ok = true ∧ a = .iface 4 (.bool x)) ∨ (ok = false ∧ x = false ∧ NT 4 a)
def T2V (a : Value) (x : Int) (ok : Bool) : Prop := (ok = true ∧ a = .iface 2 (.int .i64 x)) ∨ (ok = false ∧ x = 0 ∧ NT 2 a)
theorem Arg.w4 {F : Fz} {t : T} {a : Value} (h : Arg F t a) : ∃ (x ok : Bool), (ok = true ↔ t.atom.k = 2) ∧ (ok = true → t.atom.n = if x then 1 else 0) ∧ T4V a x ok := by
  rcases h.v4 with ⟨h1, h2, h3⟩ | ⟨h1, h2⟩
  · refine ⟨decide (t.atom.n = 1), true, by simp [h1], fun _ => ?_, .inl ⟨rfl, h3⟩⟩
    rcases h2 with h2 | h2 <;> simp [h2]
  · exact ⟨false, false, by simp [h1], by simp, .inr ⟨rfl, rfl, h2⟩⟩
theorem Arg.w2 {F : Fz} {t : T} {a : Value} (h : Arg F t a) : ∃ (x : Int) (ok : Bool), (ok = true ↔ t.atom.k = 3) ∧ (ok = true → x = t.atom.n) ∧ T2V a x ok := by
  rcases h.v2 with ⟨h1, h3⟩ | ⟨h1, h2⟩
  · exact ⟨t.atom.n, true, by simp [h1], fun _ => rfl, .inl ⟨rfl, h3⟩⟩
  · exact ⟨0, false, by simp [h1], by simp, .inr ⟨rfl, rfl, h2⟩⟩
section
variable {w0 : World} {F0 F : Fz} {L : List Ch} {R : Regs} {d : Option Nat} {ty : Nat} {pos : String} {af : Array Edge} {g : Option (Nat × Bool)}
theorem Val.ta4 {xT : TypeId} {o : Operand} {a : Value} {x ok : Bool} (hx : K.ev R o = a) (h : T4V a x ok) : Val Try.prog (Hp w0 F0 F L) R ⟨d, .typeAssert o xT 4 true, ty, pos, af, g⟩ (.tuple #[.bool x, .bool ok]) := by
  rcases h with ⟨rfl, h⟩ | ⟨rfl, rfl, h⟩
  · exact Val.taY N4 (hx.trans h)
  · exact Val.taF N4 T4 hx h
theorem Val.ta2 {xT : TypeId} {o : Operand} {a : Value} {x : Int} {ok : Bool} (hx : K.ev R o = a) (h : T2V a x ok) : Val Try.prog (Hp w0 F0 F L) R ⟨d, .typeAssert o xT 2 true, ty, pos, af, g⟩ (.tuple #[.int .i64 x, .bool ok]) := by
  rcases h with ⟨rfl, h⟩ | ⟨rfl, rfl, h⟩
  · exact Val.taY N2 (hx.trans h)
  · exact Val.taF N2 T2 hx h
end
set_option maxHeartbeats 4000000 in
theorem op3_calls (F : Fz) (w0 : World) (hF : Sub F (hv w0)) {a b : Value} {t u : T} (ha : Arg F t a) (hb : Arg F u b) : Calls Try.prog 61 #[.int .i64 3, a, b] w0 (PVA F w0 (opT 3 t u)) := by
  refine calls 371 Try.func61 rfl rfl rfl ?_
  have h := Hp.start hF
  refine W.seq (W.region rfl ?_)
  refine WL.p h Val.as ?_
  refine WL.p h Val.as ?_
  refine WL.nil ?_
  refine W.seq (W.seq (W.region rfl ?_))
  refine WL.p h Val.mv ?_
  refine WL.p h (Val.lt (a := 3) (b := 1) rfl rfl) ?_
  refine WL.p h Val.mv ?_
  refine WL.p h Val.mv ?_
  refine WL.p h (Val.gt (a := 3) (b := 14) rfl rfl) ?_
  refine WL.p h (Val.pick rfl) ?_
  refine WL.nil ?_
  refine W.condF rfl ?_
  refine W.skip ?_
  refine W.seq (W.seq (W.region rfl ?_))
  refine WL.p h Val.mv ?_
  refine WL.nil ?_
  refine W.block ?_
  refine W.seq (W.region rfl ?_)
  refine WL.p h (Val.eq (a := 3) (b := 3) rfl rfl) ?_
  refine WL.p h Val.as ?_
  refine WL.nil ?_
  refine W.condT rfl ?_
  refine W.seq (W.region rfl ?_)
  refine WL.p h Val.mv ?_
  refine WL.p h Val.mv ?_
  refine WL.call C45 (args := [a, b]) rfl ((ord_calls F _ h.sub ha hb).mono ?_)
  rintro e w' ⟨rfl, hE⟩
  have h := h.call hE
  refine ⟨_, rfl, ?_⟩
  refine WL.p h (Val.eq (a := ordT t u) (b := 0) rfl rfl) ?_
  refine WL.p h (Val.mkI (by kernel_rfl) rfl) ?_
  refine WL.p h Val.as ?_
  refine WL.p h Val.as ?_
  refine WL.nil ?_
  refine W.ret ?_
  exact fin2 (v := .iface 4 (.bool (decide (ordT t u = 0)))) (x := .string ⟨#[]⟩) rfl rfl rfl (PVA.bool h.toExt (by rw [opT, if_pos rfl]))
set_option maxHeartbeats 4000000 in
theorem op4_calls (F : Fz) (w0 : World) (hF : Sub F (hv w0)) {a b : Value} {t u : T} (ha : Arg F t a) (hb : Arg F u b) : Calls Try.prog 61 #[.int .i64 4, a, b] w0 (PVA F w0 (opT 4 t u)) := by
  refine calls 371 Try.func61 rfl rfl rfl ?_
  have h := Hp.start hF
  refine W.seq (W.region rfl ?_)
  refine WL.p h Val.as ?_
  refine WL.p h Val.as ?_
  refine WL.nil ?_
  refine W.seq (W.seq (W.region rfl ?_))
  refine WL.p h Val.mv ?_
  refine WL.p h (Val.lt (a := 4) (b := 1) rfl rfl) ?_
  refine WL.p h Val.mv ?_
  refine WL.p h Val.mv ?_
  refine WL.p h (Val.gt (a := 4) (b := 14) rfl rfl) ?_
  refine WL.p h (Val.pick rfl) ?_
  refine WL.nil ?_
  refine W.condF rfl ?_
  refine W.skip ?_
  refine W.seq (W.seq (W.region rfl ?_))
  refine WL.p h Val.mv ?_
  refine WL.nil ?_
  refine W.block ?_
  refine W.seq (W.region rfl ?_)
  refine WL.p h (Val.eq (a := 4) (b := 3) rfl rfl) ?_
  refine WL.p h Val.as ?_
  refine WL.nil ?_
  refine W.condF rfl ?_
  refine W.seq (W.region rfl ?_)
  refine WL.p h (Val.eq (a := 4) (b := 4) rfl rfl) ?_
  refine WL.p h Val.as ?_
  refine WL.nil ?_
  refine W.condT rfl ?_
  refine W.seq (W.region rfl ?_)
  refine WL.p h Val.mv ?_
  refine WL.p h Val.mv ?_
  refine WL.call C45 (args := [a, b]) rfl ((ord_calls F _ h.sub ha hb).mono ?_)
  rintro e w' ⟨rfl, hE⟩
  have h := h.call hE
  refine ⟨_, rfl, ?_⟩
  refine WL.p h (Val.ne (a := ordT t u) (b := 0) rfl rfl) ?_
  refine WL.p h (Val.mkI (by kernel_rfl) rfl) ?_
  refine WL.p h Val.as ?_
  refine WL.p h Val.as ?_
  refine WL.nil ?_
  refine W.ret ?_
  exact fin2 (v := .iface 4 (.bool (decide (ordT t u ≠ 0)))) (x := .string ⟨#[]⟩) rfl rfl rfl (PVA.bool h.toExt (by rw [opT, if_neg (show ¬ ((4 : Int) = 3) by decide), if_pos rfl]))
set_option maxHeartbeats 4000000 in
theorem op5_calls (F : Fz) (w0 : World) (hF : Sub F (hv w0)) {a b : Value} {t u : T} (ha : Arg F t a) (hb : Arg F u b) : Calls Try.prog 61 #[.int .i64 5, a, b] w0 (PVA F w0 (opT 5 t u)) := by
  refine calls 371 Try.func61 rfl rfl rfl ?_
  have h := Hp.start hF
  refine W.seq (W.region rfl ?_)
  refine WL.p h Val.as ?_
  refine WL.p h Val.as ?_
  refine WL.nil ?_
  refine W.seq (W.seq (W.region rfl ?_))
  refine WL.p h Val.mv ?_
  refine WL.p h (Val.lt (a := 5) (b := 1) rfl rfl) ?_
  refine WL.p h Val.mv ?_
  refine WL.p h Val.mv ?_
  refine WL.p h (Val.gt (a := 5) (b := 14) rfl rfl) ?_
  refine WL.p h (Val.pick rfl) ?_
  refine WL.nil ?_
  refine W.condF rfl ?_
  refine W.skip ?_
  refine W.seq (W.seq (W.region rfl ?_))
  refine WL.p h Val.mv ?_
  refine WL.nil ?_
  refine W.block ?_
  refine W.seq (W.region rfl ?_)
  refine WL.p h (Val.eq (a := 5) (b := 3) rfl rfl) ?_
  refine WL.p h Val.as ?_
  refine WL.nil ?_
  refine W.condF rfl ?_
  refine W.seq (W.region rfl ?_)
  refine WL.p h (Val.eq (a := 5) (b := 4) rfl rfl) ?_
  refine WL.p h Val.as ?_
  refine WL.nil ?_
  refine W.condF rfl ?_
  refine W.seq (W.seq (W.region rfl ?_))
  refine WL.p h (Val.eq (a := 5) (b := 5) rfl rfl) ?_
  refine WL.p h Val.as ?_
  refine WL.nil ?_
  refine W.condT rfl ?_
  refine W.skip ?_
  refine W.condT rfl ?_
  refine W.seq (W.region rfl ?_)
  refine WL.p h Val.mv ?_
  refine WL.call C73 (args := [a]) rfl ((knd_calls F _ h.sub ha).mono ?_)
  rintro e w' ⟨rfl, hE⟩
  have h := h.call hE
  refine ⟨_, rfl, ?_⟩
  refine WL.p h Val.as ?_
  refine WL.nil ?_
  refine W.seq (W.seq (W.region rfl ?_))
  refine WL.p h Val.mv ?_
  refine WL.p h Val.mv ?_
  refine WL.call C73 (args := [b]) rfl ((knd_calls F _ h.sub hb).mono ?_)
  rintro e w' ⟨rfl, hE⟩
  have h := h.call hE
  refine ⟨_, rfl, ?_⟩
  refine WL.p h (Val.ne (a := t.atom.k) (b := u.atom.k) rfl rfl) ?_
  refine WL.dec (fun kne => ?_) (fun kne => ?_)
  · refine WL.p h Val.mv ?_
    refine WL.no rfl (WL.no rfl (?_))
    refine WL.p h (Val.pick rfl) ?_
    refine WL.p h Val.mv ?_
    refine WL.no rfl (WL.no rfl (?_))
    refine WL.p h (Val.pick rfl) ?_
    refine WL.nil ?_
    refine W.condT rfl ?_
    refine W.seq (W.region rfl ?_)
    refine WL.p h Val.as ?_
    refine WL.p h Val.as ?_
    refine WL.nil ?_
    refine W.ret ?_
    exact fin2 (v := .nilIface) (x := .string wType) rfl rfl rfl (PVA.no h.toExt (by rw [opT, if_neg (show ¬ ((5 : Int) = 3) by decide), if_neg (show ¬ ((5 : Int) = 4) by decide), if_neg (show ¬ ((5 : Int) = 9) by decide), if_neg (show ¬ ((5 : Int) = 10) by decide), if_pos kne]) (by decide))
  refine WL.p h Val.mv ?_
  refine WL.p h Val.mv ?_
  refine WL.p h (Val.eq (a := t.atom.k) (b := 1) rfl rfl) ?_
  refine WL.dec (fun k1 => ?_) (fun k1 => ?_)
  · refine WL.p h (Val.pick rfl) ?_
    refine WL.p h Val.mv ?_
    refine WL.no rfl (WL.no rfl (?_))
    refine WL.p h (Val.pick rfl) ?_
    refine WL.nil ?_
    refine W.condT rfl ?_
    refine W.seq (W.region rfl ?_)
    refine WL.p h Val.as ?_
    refine WL.p h Val.as ?_
    refine WL.nil ?_
    refine W.ret ?_
    exact fin2 (v := .nilIface) (x := .string wType) rfl rfl rfl (PVA.no h.toExt (by rw [opT, if_neg (show ¬ ((5 : Int) = 3) by decide), if_neg (show ¬ ((5 : Int) = 4) by decide), if_neg (show ¬ ((5 : Int) = 9) by decide), if_neg (show ¬ ((5 : Int) = 10) by decide), if_neg kne, if_neg (show ¬ (5 : Int) ≤ 2 by decide), if_pos (show (5 : Int) ≤ 8 by decide), if_pos (Or.inl k1)]) (by decide))
  refine WL.p h (Val.pick rfl) ?_
  refine WL.p h Val.mv ?_
  refine WL.p h Val.mv ?_
  refine WL.p h (Val.eq (a := t.atom.k) (b := 6) rfl rfl) ?_
  refine WL.dec (fun k6 => ?_) (fun k6 => ?_)
  · refine WL.p h (Val.pick rfl) ?_
    refine WL.nil ?_
    refine W.condT rfl ?_
    refine W.seq (W.region rfl ?_)
    refine WL.p h Val.as ?_
    refine WL.p h Val.as ?_
    refine WL.nil ?_
    refine W.ret ?_
    exact fin2 (v := .nilIface) (x := .string wType) rfl rfl rfl (PVA.no h.toExt (by rw [opT, if_neg (show ¬ ((5 : Int) = 3) by decide), if_neg (show ¬ ((5 : Int) = 4) by decide), if_neg (show ¬ ((5 : Int) = 9) by decide), if_neg (show ¬ ((5 : Int) = 10) by decide), if_neg kne, if_neg (show ¬ (5 : Int) ≤ 2 by decide), if_pos (show (5 : Int) ≤ 8 by decide), if_pos (Or.inr k6)]) (by decide))
  refine WL.p h (Val.pick rfl) ?_
  refine WL.nil ?_
  refine W.condF rfl ?_
  refine W.skip ?_
  refine W.seq (W.region rfl ?_)
  refine WL.p h Val.mv ?_
  refine WL.p h Val.mv ?_
  refine WL.call C45 (args := [a, b]) rfl ((ord_calls F _ h.sub ha hb).mono ?_)
  rintro e w' ⟨rfl, hE⟩
  have h := h.call hE
  refine ⟨_, rfl, ?_⟩
  refine WL.p h Val.as ?_
  refine WL.nil ?_
  refine W.seq (W.region rfl ?_)
  refine WL.p h Val.mv ?_
  refine WL.p h (Val.eq (a := 5) (b := 5) rfl rfl) ?_
  refine WL.p h Val.mv ?_
  refine WL.p h Val.mv ?_
  refine WL.p h (Val.lt (a := ordT t u) (b := 0) rfl rfl) ?_
  refine WL.dec (fun d => ?_) (fun d => ?_)
  · refine WL.p h (Val.pick rfl) ?_
    refine WL.p h Val.mv ?_
    refine WL.no rfl (WL.no rfl (WL.no rfl (WL.no rfl (WL.no rfl (WL.no rfl (?_))))))
    refine WL.p h (Val.pick rfl) ?_
    refine WL.p h Val.mv ?_
    refine WL.no rfl (WL.no rfl (WL.no rfl (WL.no rfl (WL.no rfl (WL.no rfl (?_))))))
    refine WL.p h (Val.pick rfl) ?_
    refine WL.p h Val.mv ?_
    refine WL.no rfl (WL.no rfl (WL.no rfl (WL.no rfl (WL.no rfl (WL.no rfl (?_))))))
    refine WL.p h (Val.pick rfl) ?_
    refine WL.p h (Val.mkI (by kernel_rfl) rfl) ?_
    refine WL.p h Val.as ?_
    refine WL.p h Val.as ?_
    refine WL.nil ?_
    refine W.ret ?_
    exact fin2 (v := .iface 4 (.bool true)) (x := .string ⟨#[]⟩) rfl rfl rfl (PVA.bool h.toExt (by rw [opT, if_neg (show ¬ ((5 : Int) = 3) by decide), if_neg (show ¬ ((5 : Int) = 4) by decide), if_neg (show ¬ ((5 : Int) = 9) by decide), if_neg (show ¬ ((5 : Int) = 10) by decide), if_neg kne, if_neg (show ¬ (5 : Int) ≤ 2 by decide), if_pos (show (5 : Int) ≤ 8 by decide), if_neg (show ¬ (t.atom.k = 1 ∨ t.atom.k = 6) from not_or.2 ⟨k1, k6⟩), if_pos rfl]; rw [show decide (ordT t u < 0) = true from decide_eq_true d]))
  · refine WL.p h (Val.pick rfl) ?_
    refine WL.p h Val.mv ?_
    refine WL.p h Val.mv ?_
    refine WL.p h (Val.eq (a := 5) (b := 6) rfl rfl) ?_
    refine WL.p h Val.mv ?_
    refine WL.no rfl (WL.no rfl (?_))
    refine WL.p h (Val.pick rfl) ?_
    refine WL.p h (Val.pick rfl) ?_
    refine WL.p h Val.mv ?_
    refine WL.p h Val.mv ?_
    refine WL.p h (Val.eq (a := 5) (b := 7) rfl rfl) ?_
    refine WL.p h Val.mv ?_
    refine WL.no rfl (WL.no rfl (?_))
    refine WL.p h (Val.pick rfl) ?_
    refine WL.p h (Val.pick rfl) ?_
    refine WL.p h Val.mv ?_
    refine WL.p h Val.mv ?_
    refine WL.p h (Val.eq (a := 5) (b := 8) rfl rfl) ?_
    refine WL.p h Val.mv ?_
    refine WL.no rfl (WL.no rfl (?_))
    refine WL.p h (Val.pick rfl) ?_
    refine WL.p h (Val.pick rfl) ?_
    refine WL.p h (Val.mkI (by kernel_rfl) rfl) ?_
    refine WL.p h Val.as ?_
    refine WL.p h Val.as ?_
    refine WL.nil ?_
    refine W.ret ?_
    exact fin2 (v := .iface 4 (.bool false)) (x := .string ⟨#[]⟩) rfl rfl rfl (PVA.bool h.toExt (by rw [opT, if_neg (show ¬ ((5 : Int) = 3) by decide), if_neg (show ¬ ((5 : Int) = 4) by decide), if_neg (show ¬ ((5 : Int) = 9) by decide), if_neg (show ¬ ((5 : Int) = 10) by decide), if_neg kne, if_neg (show ¬ (5 : Int) ≤ 2 by decide), if_pos (show (5 : Int) ≤ 8 by decide), if_neg (show ¬ (t.atom.k = 1 ∨ t.atom.k = 6) from not_or.2 ⟨k1, k6⟩), if_pos rfl]; rw [show decide (ordT t u < 0) = false from decide_eq_false d]))
set_option maxHeartbeats 4000000 in
theorem op6_calls (F : Fz) (w0 : World) (hF : Sub F (hv w0)) {a b : Value} {t u : T} (ha : Arg F t a) (hb : Arg F u b) : Calls Try.prog 61 #[.int .i64 6, a, b] w0 (PVA F w0 (opT 6 t u)) := by
  refine calls 371 Try.func61 rfl rfl rfl ?_
  have h := Hp.start hF
  refine W.seq (W.region rfl ?_)
  refine WL.p h Val.as ?_
  refine WL.p h Val.as ?_
  refine WL.nil ?_
  refine W.seq (W.seq (W.region rfl ?_))
  refine WL.p h Val.mv ?_
  refine WL.p h (Val.lt (a := 6) (b := 1) rfl rfl) ?_
  refine WL.p h Val.mv ?_
  refine WL.p h Val.mv ?_
  refine WL.p h (Val.gt (a := 6) (b := 14) rfl rfl) ?_
  refine WL.p h (Val.pick rfl) ?_
  refine WL.nil ?_
  refine W.condF rfl ?_
  refine W.skip ?_
  refine W.seq (W.seq (W.region rfl ?_))
  refine WL.p h Val.mv ?_
  refine WL.nil ?_
  refine W.block ?_
  refine W.seq (W.region rfl ?_)
  refine WL.p h (Val.eq (a := 6) (b := 3) rfl rfl) ?_
  refine WL.p h Val.as ?_
  refine WL.nil ?_
  refine W.condF rfl ?_
  refine W.seq (W.region rfl ?_)
  refine WL.p h (Val.eq (a := 6) (b := 4) rfl rfl) ?_
  refine WL.p h Val.as ?_
  refine WL.nil ?_
  refine W.condF rfl ?_
  refine W.seq (W.seq (W.region rfl ?_))
  refine WL.p h (Val.eq (a := 6) (b := 5) rfl rfl) ?_
  refine WL.p h Val.as ?_
  refine WL.nil ?_
  refine W.condF rfl ?_
  refine W.seq (W.region rfl ?_)
  refine WL.p h (Val.eq (a := 6) (b := 6) rfl rfl) ?_
  refine WL.p h Val.as ?_
  refine WL.nil ?_
  refine W.condT rfl ?_
  refine W.skip ?_
  refine W.condT rfl ?_
  refine W.seq (W.region rfl ?_)
  refine WL.p h Val.mv ?_
  refine WL.call C73 (args := [a]) rfl ((knd_calls F _ h.sub ha).mono ?_)
  rintro e w' ⟨rfl, hE⟩
  have h := h.call hE
  refine ⟨_, rfl, ?_⟩
  refine WL.p h Val.as ?_
  refine WL.nil ?_
  refine W.seq (W.seq (W.region rfl ?_))
  refine WL.p h Val.mv ?_
  refine WL.p h Val.mv ?_
  refine WL.call C73 (args := [b]) rfl ((knd_calls F _ h.sub hb).mono ?_)
  rintro e w' ⟨rfl, hE⟩
  have h := h.call hE
  refine ⟨_, rfl, ?_⟩
  refine WL.p h (Val.ne (a := t.atom.k) (b := u.atom.k) rfl rfl) ?_
  refine WL.dec (fun kne => ?_) (fun kne => ?_)
  · refine WL.p h Val.mv ?_
    refine WL.no rfl (WL.no rfl (?_))
    refine WL.p h (Val.pick rfl) ?_
    refine WL.p h Val.mv ?_
    refine WL.no rfl (WL.no rfl (?_))
    refine WL.p h (Val.pick rfl) ?_
    refine WL.nil ?_
    refine W.condT rfl ?_
    refine W.seq (W.region rfl ?_)
    refine WL.p h Val.as ?_
    refine WL.p h Val.as ?_
    refine WL.nil ?_
    refine W.ret ?_
    exact fin2 (v := .nilIface) (x := .string wType) rfl rfl rfl (PVA.no h.toExt (by rw [opT, if_neg (show ¬ ((6 : Int) = 3) by decide), if_neg (show ¬ ((6 : Int) = 4) by decide), if_neg (show ¬ ((6 : Int) = 9) by decide), if_neg (show ¬ ((6 : Int) = 10) by decide), if_pos kne]) (by decide))
  refine WL.p h Val.mv ?_
  refine WL.p h Val.mv ?_
  refine WL.p h (Val.eq (a := t.atom.k) (b := 1) rfl rfl) ?_
  refine WL.dec (fun k1 => ?_) (fun k1 => ?_)
  · refine WL.p h (Val.pick rfl) ?_
    refine WL.p h Val.mv ?_
    refine WL.no rfl (WL.no rfl (?_))
    refine WL.p h (Val.pick rfl) ?_
    refine WL.nil ?_
    refine W.condT rfl ?_
    refine W.seq (W.region rfl ?_)
    refine WL.p h Val.as ?_
    refine WL.p h Val.as ?_
    refine WL.nil ?_
    refine W.ret ?_
    exact fin2 (v := .nilIface) (x := .string wType) rfl rfl rfl (PVA.no h.toExt (by rw [opT, if_neg (show ¬ ((6 : Int) = 3) by decide), if_neg (show ¬ ((6 : Int) = 4) by decide), if_neg (show ¬ ((6 : Int) = 9) by decide), if_neg (show ¬ ((6 : Int) = 10) by decide), if_neg kne, if_neg (show ¬ (6 : Int) ≤ 2 by decide), if_pos (show (6 : Int) ≤ 8 by decide), if_pos (Or.inl k1)]) (by decide))
  refine WL.p h (Val.pick rfl) ?_
  refine WL.p h Val.mv ?_
  refine WL.p h Val.mv ?_
  refine WL.p h (Val.eq (a := t.atom.k) (b := 6) rfl rfl) ?_
  refine WL.dec (fun k6 => ?_) (fun k6 => ?_)
  · refine WL.p h (Val.pick rfl) ?_
    refine WL.nil ?_
    refine W.condT rfl ?_
    refine W.seq (W.region rfl ?_)
    refine WL.p h Val.as ?_
    refine WL.p h Val.as ?_
    refine WL.nil ?_
    refine W.ret ?_
    exact fin2 (v := .nilIface) (x := .string wType) rfl rfl rfl (PVA.no h.toExt (by rw [opT, if_neg (show ¬ ((6 : Int) = 3) by decide), if_neg (show ¬ ((6 : Int) = 4) by decide), if_neg (show ¬ ((6 : Int) = 9) by decide), if_neg (show ¬ ((6 : Int) = 10) by decide), if_neg kne, if_neg (show ¬ (6 : Int) ≤ 2 by decide), if_pos (show (6 : Int) ≤ 8 by decide), if_pos (Or.inr k6)]) (by decide))
  refine WL.p h (Val.pick rfl) ?_
  refine WL.nil ?_
  refine W.condF rfl ?_
  refine W.skip ?_
  refine W.seq (W.region rfl ?_)
  refine WL.p h Val.mv ?_
  refine WL.p h Val.mv ?_
  refine WL.call C45 (args := [a, b]) rfl ((ord_calls F _ h.sub ha hb).mono ?_)
  rintro e w' ⟨rfl, hE⟩
  have h := h.call hE
  refine ⟨_, rfl, ?_⟩
  refine WL.p h Val.as ?_
  refine WL.nil ?_
  refine W.seq (W.region rfl ?_)
  refine WL.p h Val.mv ?_
  refine WL.p h (Val.eq (a := 6) (b := 5) rfl rfl) ?_
  refine WL.p h Val.mv ?_
  refine WL.no rfl (WL.no rfl (?_))
  refine WL.p h (Val.pick rfl) ?_
  refine WL.p h Val.mv ?_
  refine WL.p h Val.mv ?_
  refine WL.p h (Val.eq (a := 6) (b := 6) rfl rfl) ?_
  refine WL.p h Val.mv ?_
  refine WL.p h Val.mv ?_
  refine WL.p h (Val.le (a := ordT t u) (b := 0) rfl rfl) ?_
  refine WL.dec (fun d => ?_) (fun d => ?_)
  · refine WL.p h (Val.pick rfl) ?_
    refine WL.p h (Val.pick rfl) ?_
    refine WL.p h Val.mv ?_
    refine WL.no rfl (WL.no rfl (WL.no rfl (WL.no rfl (WL.no rfl (WL.no rfl (?_))))))
    refine WL.p h (Val.pick rfl) ?_
    refine WL.p h Val.mv ?_
    refine WL.no rfl (WL.no rfl (WL.no rfl (WL.no rfl (WL.no rfl (WL.no rfl (?_))))))
    refine WL.p h (Val.pick rfl) ?_
    refine WL.p h (Val.mkI (by kernel_rfl) rfl) ?_
    refine WL.p h Val.as ?_
    refine WL.p h Val.as ?_
    refine WL.nil ?_
    refine W.ret ?_
    exact fin2 (v := .iface 4 (.bool true)) (x := .string ⟨#[]⟩) rfl rfl rfl (PVA.bool h.toExt (by rw [opT, if_neg (show ¬ ((6 : Int) = 3) by decide), if_neg (show ¬ ((6 : Int) = 4) by decide), if_neg (show ¬ ((6 : Int) = 9) by decide), if_neg (show ¬ ((6 : Int) = 10) by decide), if_neg kne, if_neg (show ¬ (6 : Int) ≤ 2 by decide), if_pos (show (6 : Int) ≤ 8 by decide), if_neg (show ¬ (t.atom.k = 1 ∨ t.atom.k = 6) from not_or.2 ⟨k1, k6⟩), if_neg (show ¬ ((6 : Int) = 5) by decide), if_pos rfl]; rw [show decide (ordT t u ≤ 0) = true from decide_eq_true d]))
  · refine WL.p h (Val.pick rfl) ?_
    refine WL.p h (Val.pick rfl) ?_
    refine WL.p h Val.mv ?_
    refine WL.p h Val.mv ?_
    refine WL.p h (Val.eq (a := 6) (b := 7) rfl rfl) ?_
    refine WL.p h Val.mv ?_
    refine WL.no rfl (WL.no rfl (?_))
    refine WL.p h (Val.pick rfl) ?_
    refine WL.p h (Val.pick rfl) ?_
    refine WL.p h Val.mv ?_
    refine WL.p h Val.mv ?_
    refine WL.p h (Val.eq (a := 6) (b := 8) rfl rfl) ?_
    refine WL.p h Val.mv ?_
    refine WL.no rfl (WL.no rfl (?_))
    refine WL.p h (Val.pick rfl) ?_
    refine WL.p h (Val.pick rfl) ?_
    refine WL.p h (Val.mkI (by kernel_rfl) rfl) ?_
    refine WL.p h Val.as ?_
    refine WL.p h Val.as ?_
    refine WL.nil ?_
    refine W.ret ?_
    exact fin2 (v := .iface 4 (.bool false)) (x := .string ⟨#[]⟩) rfl rfl rfl (PVA.bool h.toExt (by rw [opT, if_neg (show ¬ ((6 : Int) = 3) by decide), if_neg (show ¬ ((6 : Int) = 4) by decide), if_neg (show ¬ ((6 : Int) = 9) by decide), if_neg (show ¬ ((6 : Int) = 10) by decide), if_neg kne, if_neg (show ¬ (6 : Int) ≤ 2 by decide), if_pos (show (6 : Int) ≤ 8 by decide), if_neg (show ¬ (t.atom.k = 1 ∨ t.atom.k = 6) from not_or.2 ⟨k1, k6⟩), if_neg (show ¬ ((6 : Int) = 5) by decide), if_pos rfl]; rw [show decide (ordT t u ≤ 0) = false from decide_eq_false d]))
set_option maxHeartbeats 4000000 in
theorem op7_calls (F : Fz) (w0 : World) (hF : Sub F (hv w0)) {a b : Value} {t u : T} (ha : Arg F t a) (hb : Arg F u b) : Calls Try.prog 61 #[.int .i64 7, a, b] w0 (PVA F w0 (opT 7 t u)) := by
  refine calls 371 Try.func61 rfl rfl rfl ?_
  have h := Hp.start hF
  refine W.seq (W.region rfl ?_)
  refine WL.p h Val.as ?_
  refine WL.p h Val.as ?_
  refine WL.nil ?_
  refine W.seq (W.seq (W.region rfl ?_))
  refine WL.p h Val.mv ?_
  refine WL.p h (Val.lt (a := 7) (b := 1) rfl rfl) ?_
  refine WL.p h Val.mv ?_
  refine WL.p h Val.mv ?_
  refine WL.p h (Val.gt (a := 7) (b := 14) rfl rfl) ?_
  refine WL.p h (Val.pick rfl) ?_
  refine WL.nil ?_
  refine W.condF rfl ?_
  refine W.skip ?_
  refine W.seq (W.seq (W.region rfl ?_))
  refine WL.p h Val.mv ?_
  refine WL.nil ?_
  refine W.block ?_
  refine W.seq (W.region rfl ?_)
  refine WL.p h (Val.eq (a := 7) (b := 3) rfl rfl) ?_
  refine WL.p h Val.as ?_
  refine WL.nil ?_
  refine W.condF rfl ?_
  refine W.seq (W.region rfl ?_)
  refine WL.p h (Val.eq (a := 7) (b := 4) rfl rfl) ?_
  refine WL.p h Val.as ?_
  refine WL.nil ?_
  refine W.condF rfl ?_
  refine W.seq (W.seq (W.region rfl ?_))
  refine WL.p h (Val.eq (a := 7) (b := 5) rfl rfl) ?_
  refine WL.p h Val.as ?_
  refine WL.nil ?_
  refine W.condF rfl ?_
  refine W.seq (W.region rfl ?_)
  refine WL.p h (Val.eq (a := 7) (b := 6) rfl rfl) ?_
  refine WL.p h Val.as ?_
  refine WL.nil ?_
  refine W.condF rfl ?_
  refine W.seq (W.region rfl ?_)
  refine WL.p h (Val.eq (a := 7) (b := 7) rfl rfl) ?_
  refine WL.p h Val.as ?_
  refine WL.nil ?_
  refine W.condT rfl ?_
  refine W.skip ?_
  refine W.condT rfl ?_
  refine W.seq (W.region rfl ?_)
  refine WL.p h Val.mv ?_
  refine WL.call C73 (args := [a]) rfl ((knd_calls F _ h.sub ha).mono ?_)
  rintro e w' ⟨rfl, hE⟩
  have h := h.call hE
  refine ⟨_, rfl, ?_⟩
  refine WL.p h Val.as ?_
  refine WL.nil ?_
  refine W.seq (W.seq (W.region rfl ?_))
  refine WL.p h Val.mv ?_
  refine WL.p h Val.mv ?_
  refine WL.call C73 (args := [b]) rfl ((knd_calls F _ h.sub hb).mono ?_)
  rintro e w' ⟨rfl, hE⟩
  have h := h.call hE
  refine ⟨_, rfl, ?_⟩
  refine WL.p h (Val.ne (a := t.atom.k) (b := u.atom.k) rfl rfl) ?_
  refine WL.dec (fun kne => ?_) (fun kne => ?_)
  · refine WL.p h Val.mv ?_
    refine WL.no rfl (WL.no rfl (?_))
    refine WL.p h (Val.pick rfl) ?_
    refine WL.p h Val.mv ?_
    refine WL.no rfl (WL.no rfl (?_))
    refine WL.p h (Val.pick rfl) ?_
    refine WL.nil ?_
    refine W.condT rfl ?_
    refine W.seq (W.region rfl ?_)
    refine WL.p h Val.as ?_
    refine WL.p h Val.as ?_
    refine WL.nil ?_
    refine W.ret ?_
    exact fin2 (v := .nilIface) (x := .string wType) rfl rfl rfl (PVA.no h.toExt (by rw [opT, if_neg (show ¬ ((7 : Int) = 3) by decide), if_neg (show ¬ ((7 : Int) = 4) by decide), if_neg (show ¬ ((7 : Int) = 9) by decide), if_neg (show ¬ ((7 : Int) = 10) by decide), if_pos kne]) (by decide))
  refine WL.p h Val.mv ?_
  refine WL.p h Val.mv ?_
  refine WL.p h (Val.eq (a := t.atom.k) (b := 1) rfl rfl) ?_
  refine WL.dec (fun k1 => ?_) (fun k1 => ?_)
  · refine WL.p h (Val.pick rfl) ?_
    refine WL.p h Val.mv ?_
    refine WL.no rfl (WL.no rfl (?_))
    refine WL.p h (Val.pick rfl) ?_
    refine WL.nil ?_
    refine W.condT rfl ?_
    refine W.seq (W.region rfl ?_)
    refine WL.p h Val.as ?_
    refine WL.p h Val.as ?_
    refine WL.nil ?_
    refine W.ret ?_
    exact fin2 (v := .nilIface) (x := .string wType) rfl rfl rfl (PVA.no h.toExt (by rw [opT, if_neg (show ¬ ((7 : Int) = 3) by decide), if_neg (show ¬ ((7 : Int) = 4) by decide), if_neg (show ¬ ((7 : Int) = 9) by decide), if_neg (show ¬ ((7 : Int) = 10) by decide), if_neg kne, if_neg (show ¬ (7 : Int) ≤ 2 by decide), if_pos (show (7 : Int) ≤ 8 by decide), if_pos (Or.inl k1)]) (by decide))
  refine WL.p h (Val.pick rfl) ?_
  refine WL.p h Val.mv ?_
  refine WL.p h Val.mv ?_
  refine WL.p h (Val.eq (a := t.atom.k) (b := 6) rfl rfl) ?_
  refine WL.dec (fun k6 => ?_) (fun k6 => ?_)
  · refine WL.p h (Val.pick rfl) ?_
    refine WL.nil ?_
    refine W.condT rfl ?_
    refine W.seq (W.region rfl ?_)
    refine WL.p h Val.as ?_
    refine WL.p h Val.as ?_
    refine WL.nil ?_
    refine W.ret ?_
    exact fin2 (v := .nilIface) (x := .string wType) rfl rfl rfl (PVA.no h.toExt (by rw [opT, if_neg (show ¬ ((7 : Int) = 3) by decide), if_neg (show ¬ ((7 : Int) = 4) by decide), if_neg (show ¬ ((7 : Int) = 9) by decide), if_neg (show ¬ ((7 : Int) = 10) by decide), if_neg kne, if_neg (show ¬ (7 : Int) ≤ 2 by decide), if_pos (show (7 : Int) ≤ 8 by decide), if_pos (Or.inr k6)]) (by decide))
  refine WL.p h (Val.pick rfl) ?_
  refine WL.nil ?_
  refine W.condF rfl ?_
  refine W.skip ?_
  refine W.seq (W.region rfl ?_)
  refine WL.p h Val.mv ?_
  refine WL.p h Val.mv ?_
  refine WL.call C45 (args := [a, b]) rfl ((ord_calls F _ h.sub ha hb).mono ?_)
  rintro e w' ⟨rfl, hE⟩
  have h := h.call hE
  refine ⟨_, rfl, ?_⟩
  refine WL.p h Val.as ?_
  refine WL.nil ?_
  refine W.seq (W.region rfl ?_)
  refine WL.p h Val.mv ?_
  refine WL.p h (Val.eq (a := 7) (b := 5) rfl rfl) ?_
  refine WL.p h Val.mv ?_
  refine WL.no rfl (WL.no rfl (?_))
  refine WL.p h (Val.pick rfl) ?_
  refine WL.p h Val.mv ?_
  refine WL.p h Val.mv ?_
  refine WL.p h (Val.eq (a := 7) (b := 6) rfl rfl) ?_
  refine WL.p h Val.mv ?_
  refine WL.no rfl (WL.no rfl (?_))
  refine WL.p h (Val.pick rfl) ?_
  refine WL.p h (Val.pick rfl) ?_
  refine WL.p h Val.mv ?_
  refine WL.p h Val.mv ?_
  refine WL.p h (Val.eq (a := 7) (b := 7) rfl rfl) ?_
  refine WL.p h Val.mv ?_
  refine WL.p h Val.mv ?_
  refine WL.p h (Val.gt (a := ordT t u) (b := 0) rfl rfl) ?_
  refine WL.dec (fun d => ?_) (fun d => ?_)
  · refine WL.p h (Val.pick rfl) ?_
    refine WL.p h (Val.pick rfl) ?_
    refine WL.p h Val.mv ?_
    refine WL.no rfl (WL.no rfl (WL.no rfl (WL.no rfl (WL.no rfl (WL.no rfl (?_))))))
    refine WL.p h (Val.pick rfl) ?_
    refine WL.p h (Val.mkI (by kernel_rfl) rfl) ?_
    refine WL.p h Val.as ?_
    refine WL.p h Val.as ?_
    refine WL.nil ?_
    refine W.ret ?_
    exact fin2 (v := .iface 4 (.bool true)) (x := .string ⟨#[]⟩) rfl rfl rfl (PVA.bool h.toExt (by rw [opT, if_neg (show ¬ ((7 : Int) = 3) by decide), if_neg (show ¬ ((7 : Int) = 4) by decide), if_neg (show ¬ ((7 : Int) = 9) by decide), if_neg (show ¬ ((7 : Int) = 10) by decide), if_neg kne, if_neg (show ¬ (7 : Int) ≤ 2 by decide), if_pos (show (7 : Int) ≤ 8 by decide), if_neg (show ¬ (t.atom.k = 1 ∨ t.atom.k = 6) from not_or.2 ⟨k1, k6⟩), if_neg (show ¬ ((7 : Int) = 5) by decide), if_neg (show ¬ ((7 : Int) = 6) by decide), if_pos rfl]; rw [show decide (0 < ordT t u) = true from decide_eq_true d]))
  · refine WL.p h (Val.pick rfl) ?_
    refine WL.p h (Val.pick rfl) ?_
    refine WL.p h Val.mv ?_
    refine WL.p h Val.mv ?_
    refine WL.p h (Val.eq (a := 7) (b := 8) rfl rfl) ?_
    refine WL.p h Val.mv ?_
    refine WL.no rfl (WL.no rfl (?_))
    refine WL.p h (Val.pick rfl) ?_
    refine WL.p h (Val.pick rfl) ?_
    refine WL.p h (Val.mkI (by kernel_rfl) rfl) ?_
    refine WL.p h Val.as ?_
    refine WL.p h Val.as ?_
    refine WL.nil ?_
    refine W.ret ?_
    exact fin2 (v := .iface 4 (.bool false)) (x := .string ⟨#[]⟩) rfl rfl rfl (PVA.bool h.toExt (by rw [opT, if_neg (show ¬ ((7 : Int) = 3) by decide), if_neg (show ¬ ((7 : Int) = 4) by decide), if_neg (show ¬ ((7 : Int) = 9) by decide), if_neg (show ¬ ((7 : Int) = 10) by decide), if_neg kne, if_neg (show ¬ (7 : Int) ≤ 2 by decide), if_pos (show (7 : Int) ≤ 8 by decide), if_neg (show ¬ (t.atom.k = 1 ∨ t.atom.k = 6) from not_or.2 ⟨k1, k6⟩), if_neg (show ¬ ((7 : Int) = 5) by decide), if_neg (show ¬ ((7 : Int) = 6) by decide), if_pos rfl]; rw [show decide (0 < ordT t u) = false from decide_eq_false d]))
set_option maxHeartbeats 4000000 in
theorem op8_calls (F : Fz) (w0 : World) (hF : Sub F (hv w0)) {a b : Value} {t u : T} (ha : Arg F t a) (hb : Arg F u b) : Calls Try.prog 61 #[.int .i64 8, a, b] w0 (PVA F w0 (opT 8 t u)) := by
  refine calls 371 Try.func61 rfl rfl rfl ?_
  have h := Hp.start hF
  refine W.seq (W.region rfl ?_)
  refine WL.p h Val.as ?_
  refine WL.p h Val.as ?_
  refine WL.nil ?_
  refine W.seq (W.seq (W.region rfl ?_))
  refine WL.p h Val.mv ?_
  refine WL.p h (Val.lt (a := 8) (b := 1) rfl rfl) ?_
  refine WL.p h Val.mv ?_
  refine WL.p h Val.mv ?_
  refine WL.p h (Val.gt (a := 8) (b := 14) rfl rfl) ?_
  refine WL.p h (Val.pick rfl) ?_
  refine WL.nil ?_
  refine W.condF rfl ?_
  refine W.skip ?_
  refine W.seq (W.seq (W.region rfl ?_))
  refine WL.p h Val.mv ?_
  refine WL.nil ?_
  refine W.block ?_
  refine W.seq (W.region rfl ?_)
  refine WL.p h (Val.eq (a := 8) (b := 3) rfl rfl) ?_
  refine WL.p h Val.as ?_
  refine WL.nil ?_
  refine W.condF rfl ?_
  refine W.seq (W.region rfl ?_)
  refine WL.p h (Val.eq (a := 8) (b := 4) rfl rfl) ?_
  refine WL.p h Val.as ?_
  refine WL.nil ?_
  refine W.condF rfl ?_
  refine W.seq (W.seq (W.region rfl ?_))
  refine WL.p h (Val.eq (a := 8) (b := 5) rfl rfl) ?_
  refine WL.p h Val.as ?_
  refine WL.nil ?_
  refine W.condF rfl ?_
  refine W.seq (W.region rfl ?_)
  refine WL.p h (Val.eq (a := 8) (b := 6) rfl rfl) ?_
  refine WL.p h Val.as ?_
  refine WL.nil ?_
  refine W.condF rfl ?_
  refine W.seq (W.region rfl ?_)
  refine WL.p h (Val.eq (a := 8) (b := 7) rfl rfl) ?_
  refine WL.p h Val.as ?_
  refine WL.nil ?_
  refine W.condF rfl ?_
  refine W.region rfl ?_
  refine WL.p h (Val.eq (a := 8) (b := 8) rfl rfl) ?_
  refine WL.p h Val.as ?_
  refine WL.nil ?_
  refine W.condT rfl ?_
  refine W.seq (W.region rfl ?_)
  refine WL.p h Val.mv ?_
  refine WL.call C73 (args := [a]) rfl ((knd_calls F _ h.sub ha).mono ?_)
  rintro e w' ⟨rfl, hE⟩
  have h := h.call hE
  refine ⟨_, rfl, ?_⟩
  refine WL.p h Val.as ?_
  refine WL.nil ?_
  refine W.seq (W.seq (W.region rfl ?_))
  refine WL.p h Val.mv ?_
  refine WL.p h Val.mv ?_
  refine WL.call C73 (args := [b]) rfl ((knd_calls F _ h.sub hb).mono ?_)
  rintro e w' ⟨rfl, hE⟩
  have h := h.call hE
  refine ⟨_, rfl, ?_⟩
  refine WL.p h (Val.ne (a := t.atom.k) (b := u.atom.k) rfl rfl) ?_
  refine WL.dec (fun kne => ?_) (fun kne => ?_)
  · refine WL.p h Val.mv ?_
    refine WL.no rfl (WL.no rfl (?_))
    refine WL.p h (Val.pick rfl) ?_
    refine WL.p h Val.mv ?_
    refine WL.no rfl (WL.no rfl (?_))
    refine WL.p h (Val.pick rfl) ?_
    refine WL.nil ?_
    refine W.condT rfl ?_
    refine W.seq (W.region rfl ?_)
    refine WL.p h Val.as ?_
    refine WL.p h Val.as ?_
    refine WL.nil ?_
    refine W.ret ?_
    exact fin2 (v := .nilIface) (x := .string wType) rfl rfl rfl (PVA.no h.toExt (by rw [opT, if_neg (show ¬ ((8 : Int) = 3) by decide), if_neg (show ¬ ((8 : Int) = 4) by decide), if_neg (show ¬ ((8 : Int) = 9) by decide), if_neg (show ¬ ((8 : Int) = 10) by decide), if_pos kne]) (by decide))
  refine WL.p h Val.mv ?_
  refine WL.p h Val.mv ?_
  refine WL.p h (Val.eq (a := t.atom.k) (b := 1) rfl rfl) ?_
  refine WL.dec (fun k1 => ?_) (fun k1 => ?_)
  · refine WL.p h (Val.pick rfl) ?_
    refine WL.p h Val.mv ?_
    refine WL.no rfl (WL.no rfl (?_))
    refine WL.p h (Val.pick rfl) ?_
    refine WL.nil ?_
    refine W.condT rfl ?_
    refine W.seq (W.region rfl ?_)
    refine WL.p h Val.as ?_
    refine WL.p h Val.as ?_
    refine WL.nil ?_
    refine W.ret ?_
    exact fin2 (v := .nilIface) (x := .string wType) rfl rfl rfl (PVA.no h.toExt (by rw [opT, if_neg (show ¬ ((8 : Int) = 3) by decide), if_neg (show ¬ ((8 : Int) = 4) by decide), if_neg (show ¬ ((8 : Int) = 9) by decide), if_neg (show ¬ ((8 : Int) = 10) by decide), if_neg kne, if_neg (show ¬ (8 : Int) ≤ 2 by decide), if_pos (show (8 : Int) ≤ 8 by decide), if_pos (Or.inl k1)]) (by decide))
  refine WL.p h (Val.pick rfl) ?_
  refine WL.p h Val.mv ?_
  refine WL.p h Val.mv ?_
  refine WL.p h (Val.eq (a := t.atom.k) (b := 6) rfl rfl) ?_
  refine WL.dec (fun k6 => ?_) (fun k6 => ?_)
  · refine WL.p h (Val.pick rfl) ?_
    refine WL.nil ?_
    refine W.condT rfl ?_
    refine W.seq (W.region rfl ?_)
    refine WL.p h Val.as ?_
    refine WL.p h Val.as ?_
    refine WL.nil ?_
    refine W.ret ?_
    exact fin2 (v := .nilIface) (x := .string wType) rfl rfl rfl (PVA.no h.toExt (by rw [opT, if_neg (show ¬ ((8 : Int) = 3) by decide), if_neg (show ¬ ((8 : Int) = 4) by decide), if_neg (show ¬ ((8 : Int) = 9) by decide), if_neg (show ¬ ((8 : Int) = 10) by decide), if_neg kne, if_neg (show ¬ (8 : Int) ≤ 2 by decide), if_pos (show (8 : Int) ≤ 8 by decide), if_pos (Or.inr k6)]) (by decide))
  refine WL.p h (Val.pick rfl) ?_
  refine WL.nil ?_
  refine W.condF rfl ?_
  refine W.skip ?_
  refine W.seq (W.region rfl ?_)
  refine WL.p h Val.mv ?_
  refine WL.p h Val.mv ?_
  refine WL.call C45 (args := [a, b]) rfl ((ord_calls F _ h.sub ha hb).mono ?_)
  rintro e w' ⟨rfl, hE⟩
  have h := h.call hE
  refine ⟨_, rfl, ?_⟩
  refine WL.p h Val.as ?_
  refine WL.nil ?_
  refine W.seq (W.region rfl ?_)
  refine WL.p h Val.mv ?_
  refine WL.p h (Val.eq (a := 8) (b := 5) rfl rfl) ?_
  refine WL.p h Val.mv ?_
  refine WL.no rfl (WL.no rfl (?_))
  refine WL.p h (Val.pick rfl) ?_
  refine WL.p h Val.mv ?_
  refine WL.p h Val.mv ?_
  refine WL.p h (Val.eq (a := 8) (b := 6) rfl rfl) ?_
  refine WL.p h Val.mv ?_
  refine WL.no rfl (WL.no rfl (?_))
  refine WL.p h (Val.pick rfl) ?_
  refine WL.p h (Val.pick rfl) ?_
  refine WL.p h Val.mv ?_
  refine WL.p h Val.mv ?_
  refine WL.p h (Val.eq (a := 8) (b := 7) rfl rfl) ?_
  refine WL.p h Val.mv ?_
  refine WL.no rfl (WL.no rfl (?_))
  refine WL.p h (Val.pick rfl) ?_
  refine WL.p h (Val.pick rfl) ?_
  refine WL.p h Val.mv ?_
  refine WL.p h Val.mv ?_
  refine WL.p h (Val.eq (a := 8) (b := 8) rfl rfl) ?_
  refine WL.p h Val.mv ?_
  refine WL.p h Val.mv ?_
  refine WL.p h (Val.ge (a := ordT t u) (b := 0) rfl rfl) ?_
  refine WL.dec (fun d => ?_) (fun d => ?_)
  · refine WL.p h (Val.pick rfl) ?_
    refine WL.p h (Val.pick rfl) ?_
    refine WL.p h (Val.mkI (by kernel_rfl) rfl) ?_
    refine WL.p h Val.as ?_
    refine WL.p h Val.as ?_
    refine WL.nil ?_
    refine W.ret ?_
    exact fin2 (v := .iface 4 (.bool true)) (x := .string ⟨#[]⟩) rfl rfl rfl (PVA.bool h.toExt (by rw [opT, if_neg (show ¬ ((8 : Int) = 3) by decide), if_neg (show ¬ ((8 : Int) = 4) by decide), if_neg (show ¬ ((8 : Int) = 9) by decide), if_neg (show ¬ ((8 : Int) = 10) by decide), if_neg kne, if_neg (show ¬ (8 : Int) ≤ 2 by decide), if_pos (show (8 : Int) ≤ 8 by decide), if_neg (show ¬ (t.atom.k = 1 ∨ t.atom.k = 6) from not_or.2 ⟨k1, k6⟩), if_neg (show ¬ ((8 : Int) = 5) by decide), if_neg (show ¬ ((8 : Int) = 6) by decide), if_neg (show ¬ ((8 : Int) = 7) by decide)]; rw [show decide (0 ≤ ordT t u) = true from decide_eq_true d]))
  · refine WL.p h (Val.pick rfl) ?_
    refine WL.p h (Val.pick rfl) ?_
    refine WL.p h (Val.mkI (by kernel_rfl) rfl) ?_
    refine WL.p h Val.as ?_
    refine WL.p h Val.as ?_
    refine WL.nil ?_
    refine W.ret ?_
    exact fin2 (v := .iface 4 (.bool false)) (x := .string ⟨#[]⟩) rfl rfl rfl (PVA.bool h.toExt (by rw [opT, if_neg (show ¬ ((8 : Int) = 3) by decide), if_neg (show ¬ ((8 : Int) = 4) by decide), if_neg (show ¬ ((8 : Int) = 9) by decide), if_neg (show ¬ ((8 : Int) = 10) by decide), if_neg kne, if_neg (show ¬ (8 : Int) ≤ 2 by decide), if_pos (show (8 : Int) ≤ 8 by decide), if_neg (show ¬ (t.atom.k = 1 ∨ t.atom.k = 6) from not_or.2 ⟨k1, k6⟩), if_neg (show ¬ ((8 : Int) = 5) by decide), if_neg (show ¬ ((8 : Int) = 6) by decide), if_neg (show ¬ ((8 : Int) = 7) by decide)]; rw [show decide (0 ≤ ordT t u) = false from decide_eq_false d]))
set_option maxHeartbeats 4000000 in
theorem op1_calls (F : Fz) (w0 : World) (hF : Sub F (hv w0)) {a b : Value} {t u : T} (ha : Arg F t a) (hb : Arg F u b) : Calls Try.prog 61 #[.int .i64 1, a, b] w0 (PVA F w0 (opT 1 t u)) := by
  obtain ⟨x, ok1, hk1, hx, hT1⟩ := ha.w4
  obtain ⟨y, ok2, hk2, hy, hT2⟩ := hb.w4
  refine calls 371 Try.func61 rfl rfl rfl ?_
  have h := Hp.start hF
  refine W.seq (W.region rfl ?_)
  refine WL.p h Val.as ?_
  refine WL.p h Val.as ?_
  refine WL.nil ?_
  refine W.seq (W.seq (W.region rfl ?_))
  refine WL.p h Val.mv ?_
  refine WL.p h (Val.lt (a := 1) (b := 1) rfl rfl) ?_
  refine WL.p h Val.mv ?_
  refine WL.p h Val.mv ?_
  refine WL.p h (Val.gt (a := 1) (b := 14) rfl rfl) ?_
  refine WL.p h (Val.pick rfl) ?_
  refine WL.nil ?_
  refine W.condF rfl ?_
  refine W.skip ?_
  refine W.seq (W.seq (W.region rfl ?_))
  refine WL.p h Val.mv ?_
  refine WL.nil ?_
  refine W.block ?_
  refine W.seq (W.region rfl ?_)
  refine WL.p h (Val.eq (a := 1) (b := 3) rfl rfl) ?_
  refine WL.p h Val.as ?_
  refine WL.nil ?_
  refine W.condF rfl ?_
  refine W.seq (W.region rfl ?_)
  refine WL.p h (Val.eq (a := 1) (b := 4) rfl rfl) ?_
  refine WL.p h Val.as ?_
  refine WL.nil ?_
  refine W.condF rfl ?_
  refine W.seq (W.seq (W.region rfl ?_))
  refine WL.p h (Val.eq (a := 1) (b := 5) rfl rfl) ?_
  refine WL.p h Val.as ?_
  refine WL.nil ?_
  refine W.condF rfl ?_
  refine W.seq (W.region rfl ?_)
  refine WL.p h (Val.eq (a := 1) (b := 6) rfl rfl) ?_
  refine WL.p h Val.as ?_
  refine WL.nil ?_
  refine W.condF rfl ?_
  refine W.seq (W.region rfl ?_)
  refine WL.p h (Val.eq (a := 1) (b := 7) rfl rfl) ?_
  refine WL.p h Val.as ?_
  refine WL.nil ?_
  refine W.condF rfl ?_
  refine W.region rfl ?_
  refine WL.p h (Val.eq (a := 1) (b := 8) rfl rfl) ?_
  refine WL.p h Val.as ?_
  refine WL.nil ?_
  refine W.condF rfl ?_
  refine W.seq (W.seq (W.region rfl ?_))
  refine WL.p h (Val.eq (a := 1) (b := 1) rfl rfl) ?_
  refine WL.p h Val.as ?_
  refine WL.nil ?_
  refine W.condT rfl ?_
  refine W.skip ?_
  refine W.condT rfl ?_
  refine W.seq (W.region rfl ?_)
  refine WL.p h Val.mv ?_
  refine WL.p h (Val.ta4 rfl hT1) ?_
  refine WL.p h Val.mv ?_
  refine WL.p h (Val.ext rfl rfl) ?_
  refine WL.p h (Val.ext rfl rfl) ?_
  refine WL.p h Val.as ?_
  refine WL.p h Val.as ?_
  refine WL.nil ?_
  refine W.seq (W.region rfl ?_)
  refine WL.p h Val.mv ?_
  refine WL.p h (Val.ta4 rfl hT2) ?_
  refine WL.p h Val.mv ?_
  refine WL.p h (Val.ext rfl rfl) ?_
  refine WL.p h (Val.ext rfl rfl) ?_
  refine WL.p h Val.as ?_
  refine WL.p h Val.as ?_
  refine WL.nil ?_
  refine W.seq (W.seq (W.region rfl ?_))
  refine WL.p h Val.mv ?_
  refine WL.p h (Val.not rfl) ?_
  refine WL.p h Val.mv ?_
  cases ok1 with
  | false =>
    have k1 : t.atom.k ≠ 2 := fun e => by simpa using hk1.2 e
    have hno : opT 1 t u = ([], wType) := by
      by_cases kne : t.atom.k ≠ u.atom.k
      · rw [opT, if_neg (show ¬ ((1 : Int) = 3) by decide), if_neg (show ¬ ((1 : Int) = 4) by decide), if_neg (show ¬ ((1 : Int) = 9) by decide), if_neg (show ¬ ((1 : Int) = 10) by decide), if_pos kne]
      · rw [opT, if_neg (show ¬ ((1 : Int) = 3) by decide), if_neg (show ¬ ((1 : Int) = 4) by decide), if_neg (show ¬ ((1 : Int) = 9) by decide), if_neg (show ¬ ((1 : Int) = 10) by decide), if_neg kne, if_pos (show (1 : Int) ≤ 2 by decide), if_pos k1]
    refine WL.no rfl (WL.no rfl (?_))
    refine WL.p h (Val.pick rfl) ?_
    refine WL.nil ?_
    refine W.condT rfl ?_
    refine W.seq (W.region rfl ?_)
    refine WL.p h Val.as ?_
    refine WL.p h Val.as ?_
    refine WL.nil ?_
    refine W.ret ?_
    exact fin2 (v := .nilIface) (x := .string wType) rfl rfl rfl (PVA.no h.toExt (by exact hno) (by decide))
  | true =>
  have k1 : t.atom.k = 2 := hk1.1 rfl
  refine WL.p h Val.mv ?_
  refine WL.p h (Val.not rfl) ?_
  cases ok2 with
  | false =>
    have kne : t.atom.k ≠ u.atom.k := fun e => by simpa using hk2.2 (e ▸ k1)
    refine WL.p h (Val.pick rfl) ?_
    refine WL.nil ?_
    refine W.condT rfl ?_
    refine W.seq (W.region rfl ?_)
    refine WL.p h Val.as ?_
    refine WL.p h Val.as ?_
    refine WL.nil ?_
    refine W.ret ?_
    exact fin2 (v := .nilIface) (x := .string wType) rfl rfl rfl (PVA.no h.toExt (by rw [opT, if_neg (show ¬ ((1 : Int) = 3) by decide), if_neg (show ¬ ((1 : Int) = 4) by decide), if_neg (show ¬ ((1 : Int) = 9) by decide), if_neg (show ¬ ((1 : Int) = 10) by decide), if_pos kne]) (by decide))
  | true =>
  have k2 : u.atom.k = 2 := hk2.1 rfl
  have kne : ¬ t.atom.k ≠ u.atom.k := fun e => e (by rw [k1, k2])
  have hx := hx rfl
  have hy := hy rfl
  refine WL.p h (Val.pick rfl) ?_
  refine WL.nil ?_
  refine W.condF rfl ?_
  refine W.skip ?_
  refine W.seq (W.seq (W.region rfl ?_))
  refine WL.p h Val.mv ?_
  refine WL.p h (Val.eq (a := 1) (b := 1) rfl rfl) ?_
  refine WL.nil ?_
  refine W.condT rfl ?_
  refine W.seq (W.region rfl ?_)
  refine WL.p h Val.mv ?_
  cases x with
  | true =>
    refine WL.p h Val.mv ?_
    refine WL.no rfl (?_)
    refine WL.p h (Val.pick rfl) ?_
    cases y with
    | true =>
      refine WL.p h (Val.mkI (by kernel_rfl) rfl) ?_
      refine WL.p h Val.as ?_
      refine WL.p h Val.as ?_
      refine WL.nil ?_
      refine W.ret ?_
      exact fin2 (v := .iface 4 (.bool true)) (x := .string ⟨#[]⟩) rfl rfl rfl (PVA.bool h.toExt (by rw [opT, if_neg (show ¬ ((1 : Int) = 3) by decide), if_neg (show ¬ ((1 : Int) = 4) by decide), if_neg (show ¬ ((1 : Int) = 9) by decide), if_neg (show ¬ ((1 : Int) = 10) by decide), if_neg kne, if_pos (show (1 : Int) ≤ 2 by decide), if_neg (show ¬ t.atom.k ≠ 2 from fun e => e k1), if_pos rfl]; rw [hx, hy]; rfl))
    | false =>
      refine WL.p h (Val.mkI (by kernel_rfl) rfl) ?_
      refine WL.p h Val.as ?_
      refine WL.p h Val.as ?_
      refine WL.nil ?_
      refine W.ret ?_
      exact fin2 (v := .iface 4 (.bool true)) (x := .string ⟨#[]⟩) rfl rfl rfl (PVA.bool h.toExt (by rw [opT, if_neg (show ¬ ((1 : Int) = 3) by decide), if_neg (show ¬ ((1 : Int) = 4) by decide), if_neg (show ¬ ((1 : Int) = 9) by decide), if_neg (show ¬ ((1 : Int) = 10) by decide), if_neg kne, if_pos (show (1 : Int) ≤ 2 by decide), if_neg (show ¬ t.atom.k ≠ 2 from fun e => e k1), if_pos rfl]; rw [hx, hy]; rfl))
  | false =>
    refine WL.p h Val.mv ?_
    refine WL.p h Val.mv ?_
    refine WL.p h (Val.pick rfl) ?_
    cases y with
    | true =>
      refine WL.p h (Val.mkI (by kernel_rfl) rfl) ?_
      refine WL.p h Val.as ?_
      refine WL.p h Val.as ?_
      refine WL.nil ?_
      refine W.ret ?_
      exact fin2 (v := .iface 4 (.bool true)) (x := .string ⟨#[]⟩) rfl rfl rfl (PVA.bool h.toExt (by rw [opT, if_neg (show ¬ ((1 : Int) = 3) by decide), if_neg (show ¬ ((1 : Int) = 4) by decide), if_neg (show ¬ ((1 : Int) = 9) by decide), if_neg (show ¬ ((1 : Int) = 10) by decide), if_neg kne, if_pos (show (1 : Int) ≤ 2 by decide), if_neg (show ¬ t.atom.k ≠ 2 from fun e => e k1), if_pos rfl]; rw [hx, hy]; rfl))
    | false =>
      refine WL.p h (Val.mkI (by kernel_rfl) rfl) ?_
      refine WL.p h Val.as ?_
      refine WL.p h Val.as ?_
      refine WL.nil ?_
      refine W.ret ?_
      exact fin2 (v := .iface 4 (.bool false)) (x := .string ⟨#[]⟩) rfl rfl rfl (PVA.bool h.toExt (by rw [opT, if_neg (show ¬ ((1 : Int) = 3) by decide), if_neg (show ¬ ((1 : Int) = 4) by decide), if_neg (show ¬ ((1 : Int) = 9) by decide), if_neg (show ¬ ((1 : Int) = 10) by decide), if_neg kne, if_pos (show (1 : Int) ≤ 2 by decide), if_neg (show ¬ t.atom.k ≠ 2 from fun e => e k1), if_pos rfl]; rw [hx, hy]; rfl))
set_option maxHeartbeats 4000000 in
theorem op2_calls (F : Fz) (w0 : World) (hF : Sub F (hv w0)) {a b : Value} {t u : T} (ha : Arg F t a) (hb : Arg F u b) : Calls Try.prog 61 #[.int .i64 2, a, b] w0 (PVA F w0 (opT 2 t u)) := by
  obtain ⟨x, ok1, hk1, hx, hT1⟩ := ha.w4
  obtain ⟨y, ok2, hk2, hy, hT2⟩ := hb.w4
  refine calls 371 Try.func61 rfl rfl rfl ?_
  have h := Hp.start hF
  refine W.seq (W.region rfl ?_)
  refine WL.p h Val.as ?_
  refine WL.p h Val.as ?_
  refine WL.nil ?_
  refine W.seq (W.seq (W.region rfl ?_))
  refine WL.p h Val.mv ?_
  refine WL.p h (Val.lt (a := 2) (b := 1) rfl rfl) ?_
  refine WL.p h Val.mv ?_
  refine WL.p h Val.mv ?_
  refine WL.p h (Val.gt (a := 2) (b := 14) rfl rfl) ?_
  refine WL.p h (Val.pick rfl) ?_
  refine WL.nil ?_
  refine W.condF rfl ?_
  refine W.skip ?_
  refine W.seq (W.seq (W.region rfl ?_))
  refine WL.p h Val.mv ?_
  refine WL.nil ?_
  refine W.block ?_
  refine W.seq (W.region rfl ?_)
  refine WL.p h (Val.eq (a := 2) (b := 3) rfl rfl) ?_
  refine WL.p h Val.as ?_
  refine WL.nil ?_
  refine W.condF rfl ?_
  refine W.seq (W.region rfl ?_)
  refine WL.p h (Val.eq (a := 2) (b := 4) rfl rfl) ?_
  refine WL.p h Val.as ?_
  refine WL.nil ?_
  refine W.condF rfl ?_
  refine W.seq (W.seq (W.region rfl ?_))
  refine WL.p h (Val.eq (a := 2) (b := 5) rfl rfl) ?_
  refine WL.p h Val.as ?_
  refine WL.nil ?_
  refine W.condF rfl ?_
  refine W.seq (W.region rfl ?_)
  refine WL.p h (Val.eq (a := 2) (b := 6) rfl rfl) ?_
  refine WL.p h Val.as ?_
  refine WL.nil ?_
  refine W.condF rfl ?_
  refine W.seq (W.region rfl ?_)
  refine WL.p h (Val.eq (a := 2) (b := 7) rfl rfl) ?_
  refine WL.p h Val.as ?_
  refine WL.nil ?_
  refine W.condF rfl ?_
  refine W.region rfl ?_
  refine WL.p h (Val.eq (a := 2) (b := 8) rfl rfl) ?_
  refine WL.p h Val.as ?_
  refine WL.nil ?_
  refine W.condF rfl ?_
  refine W.seq (W.seq (W.region rfl ?_))
  refine WL.p h (Val.eq (a := 2) (b := 1) rfl rfl) ?_
  refine WL.p h Val.as ?_
  refine WL.nil ?_
  refine W.condF rfl ?_
  refine W.region rfl ?_
  refine WL.p h (Val.eq (a := 2) (b := 2) rfl rfl) ?_
  refine WL.p h Val.as ?_
  refine WL.nil ?_
  refine W.condT rfl ?_
  refine W.seq (W.region rfl ?_)
  refine WL.p h Val.mv ?_
  refine WL.p h (Val.ta4 rfl hT1) ?_
  refine WL.p h Val.mv ?_
  refine WL.p h (Val.ext rfl rfl) ?_
  refine WL.p h (Val.ext rfl rfl) ?_
  refine WL.p h Val.as ?_
  refine WL.p h Val.as ?_
  refine WL.nil ?_
  refine W.seq (W.region rfl ?_)
  refine WL.p h Val.mv ?_
  refine WL.p h (Val.ta4 rfl hT2) ?_
  refine WL.p h Val.mv ?_
  refine WL.p h (Val.ext rfl rfl) ?_
  refine WL.p h (Val.ext rfl rfl) ?_
  refine WL.p h Val.as ?_
  refine WL.p h Val.as ?_
  refine WL.nil ?_
  refine W.seq (W.seq (W.region rfl ?_))
  refine WL.p h Val.mv ?_
  refine WL.p h (Val.not rfl) ?_
  refine WL.p h Val.mv ?_
  cases ok1 with
  | false =>
    have k1 : t.atom.k ≠ 2 := fun e => by simpa using hk1.2 e
    have hno : opT 2 t u = ([], wType) := by
      by_cases kne : t.atom.k ≠ u.atom.k
      · rw [opT, if_neg (show ¬ ((2 : Int) = 3) by decide), if_neg (show ¬ ((2 : Int) = 4) by decide), if_neg (show ¬ ((2 : Int) = 9) by decide), if_neg (show ¬ ((2 : Int) = 10) by decide), if_pos kne]
      · rw [opT, if_neg (show ¬ ((2 : Int) = 3) by decide), if_neg (show ¬ ((2 : Int) = 4) by decide), if_neg (show ¬ ((2 : Int) = 9) by decide), if_neg (show ¬ ((2 : Int) = 10) by decide), if_neg kne, if_pos (show (2 : Int) ≤ 2 by decide), if_pos k1]
    refine WL.no rfl (WL.no rfl (?_))
    refine WL.p h (Val.pick rfl) ?_
    refine WL.nil ?_
    refine W.condT rfl ?_
    refine W.seq (W.region rfl ?_)
    refine WL.p h Val.as ?_
    refine WL.p h Val.as ?_
    refine WL.nil ?_
    refine W.ret ?_
    exact fin2 (v := .nilIface) (x := .string wType) rfl rfl rfl (PVA.no h.toExt (by exact hno) (by decide))
  | true =>
  have k1 : t.atom.k = 2 := hk1.1 rfl
  refine WL.p h Val.mv ?_
  refine WL.p h (Val.not rfl) ?_
  cases ok2 with
  | false =>
    have kne : t.atom.k ≠ u.atom.k := fun e => by simpa using hk2.2 (e ▸ k1)
    refine WL.p h (Val.pick rfl) ?_
    refine WL.nil ?_
    refine W.condT rfl ?_
    refine W.seq (W.region rfl ?_)
    refine WL.p h Val.as ?_
    refine WL.p h Val.as ?_
    refine WL.nil ?_
    refine W.ret ?_
    exact fin2 (v := .nilIface) (x := .string wType) rfl rfl rfl (PVA.no h.toExt (by rw [opT, if_neg (show ¬ ((2 : Int) = 3) by decide), if_neg (show ¬ ((2 : Int) = 4) by decide), if_neg (show ¬ ((2 : Int) = 9) by decide), if_neg (show ¬ ((2 : Int) = 10) by decide), if_pos kne]) (by decide))
  | true =>
  have k2 : u.atom.k = 2 := hk2.1 rfl
  have kne : ¬ t.atom.k ≠ u.atom.k := fun e => e (by rw [k1, k2])
  have hx := hx rfl
  have hy := hy rfl
  refine WL.p h (Val.pick rfl) ?_
  refine WL.nil ?_
  refine W.condF rfl ?_
  refine W.skip ?_
  refine W.seq (W.seq (W.region rfl ?_))
  refine WL.p h Val.mv ?_
  refine WL.p h (Val.eq (a := 2) (b := 1) rfl rfl) ?_
  refine WL.nil ?_
  refine W.condF rfl ?_
  refine W.skip ?_
  refine W.seq (W.region rfl ?_)
  refine WL.p h Val.mv ?_
  cases x with
  | true =>
    refine WL.p h Val.mv ?_
    refine WL.p h Val.mv ?_
    refine WL.p h (Val.pick rfl) ?_
    cases y with
    | true =>
      refine WL.p h (Val.mkI (by kernel_rfl) rfl) ?_
      refine WL.p h Val.as ?_
      refine WL.p h Val.as ?_
      refine WL.nil ?_
      refine W.ret ?_
      exact fin2 (v := .iface 4 (.bool true)) (x := .string ⟨#[]⟩) rfl rfl rfl (PVA.bool h.toExt (by rw [opT, if_neg (show ¬ ((2 : Int) = 3) by decide), if_neg (show ¬ ((2 : Int) = 4) by decide), if_neg (show ¬ ((2 : Int) = 9) by decide), if_neg (show ¬ ((2 : Int) = 10) by decide), if_neg kne, if_pos (show (2 : Int) ≤ 2 by decide), if_neg (show ¬ t.atom.k ≠ 2 from fun e => e k1), if_neg (show ¬ ((2 : Int) = 1) by decide)]; rw [hx, hy]; rfl))
    | false =>
      refine WL.p h (Val.mkI (by kernel_rfl) rfl) ?_
      refine WL.p h Val.as ?_
      refine WL.p h Val.as ?_
      refine WL.nil ?_
      refine W.ret ?_
      exact fin2 (v := .iface 4 (.bool false)) (x := .string ⟨#[]⟩) rfl rfl rfl (PVA.bool h.toExt (by rw [opT, if_neg (show ¬ ((2 : Int) = 3) by decide), if_neg (show ¬ ((2 : Int) = 4) by decide), if_neg (show ¬ ((2 : Int) = 9) by decide), if_neg (show ¬ ((2 : Int) = 10) by decide), if_neg kne, if_pos (show (2 : Int) ≤ 2 by decide), if_neg (show ¬ t.atom.k ≠ 2 from fun e => e k1), if_neg (show ¬ ((2 : Int) = 1) by decide)]; rw [hx, hy]; rfl))
  | false =>
    refine WL.p h Val.mv ?_
    refine WL.no rfl (?_)
    refine WL.p h (Val.pick rfl) ?_
    cases y with
    | true =>
      refine WL.p h (Val.mkI (by kernel_rfl) rfl) ?_
      refine WL.p h Val.as ?_
      refine WL.p h Val.as ?_
      refine WL.nil ?_
      refine W.ret ?_
      exact fin2 (v := .iface 4 (.bool false)) (x := .string ⟨#[]⟩) rfl rfl rfl (PVA.bool h.toExt (by rw [opT, if_neg (show ¬ ((2 : Int) = 3) by decide), if_neg (show ¬ ((2 : Int) = 4) by decide), if_neg (show ¬ ((2 : Int) = 9) by decide), if_neg (show ¬ ((2 : Int) = 10) by decide), if_neg kne, if_pos (show (2 : Int) ≤ 2 by decide), if_neg (show ¬ t.atom.k ≠ 2 from fun e => e k1), if_neg (show ¬ ((2 : Int) = 1) by decide)]; rw [hx, hy]; rfl))
    | false =>
      refine WL.p h (Val.mkI (by kernel_rfl) rfl) ?_
      refine WL.p h Val.as ?_
      refine WL.p h Val.as ?_
      refine WL.nil ?_
      refine W.ret ?_
      exact fin2 (v := .iface 4 (.bool false)) (x := .string ⟨#[]⟩) rfl rfl rfl (PVA.bool h.toExt (by rw [opT, if_neg (show ¬ ((2 : Int) = 3) by decide), if_neg (show ¬ ((2 : Int) = 4) by decide), if_neg (show ¬ ((2 : Int) = 9) by decide), if_neg (show ¬ ((2 : Int) = 10) by decide), if_neg kne, if_pos (show (2 : Int) ≤ 2 by decide), if_neg (show ¬ t.atom.k ≠ 2 from fun e => e k1), if_neg (show ¬ ((2 : Int) = 1) by decide)]; rw [hx, hy]; rfl))
set_option maxHeartbeats 4000000 in
theorem opOut_calls (F : Fz) (w0 : World) (hF : Sub F (hv w0)) (op : Int) (a b : Value) (hop : op < 1 ∨ 14 < op) : Calls Try.prog 61 #[.int .i64 op, a, b] w0 (PVA F w0 ([], wType)) := by
  refine calls 371 Try.func61 rfl rfl rfl ?_
  have h := Hp.start hF
  refine W.seq (W.region rfl ?_)
  refine WL.p h Val.as ?_
  refine WL.p h Val.as ?_
  refine WL.nil ?_
  refine W.seq (W.seq (W.region rfl ?_))
  refine WL.p h Val.mv ?_
  refine WL.p h (Val.lt (a := op) (b := 1) rfl rfl) ?_
  refine WL.dec (fun d => ?_) (fun d => ?_)
  · refine WL.p h Val.mv ?_
    refine WL.no rfl (WL.no rfl (?_))
    refine WL.p h (Val.pick rfl) ?_
    refine WL.nil ?_
    refine W.condT rfl ?_
    refine W.seq (W.region rfl ?_)
    refine WL.p h Val.as ?_
    refine WL.p h Val.as ?_
    refine WL.nil ?_
    refine W.ret ?_
    exact fin2 (v := .nilIface) (x := .string wType) rfl rfl rfl (PVA.no h.toExt rfl (by decide))
  refine WL.p h Val.mv ?_
  refine WL.p h Val.mv ?_
  refine WL.p h (Val.gt (a := op) (b := 14) rfl rfl) ?_
  refine WL.dec (fun d2 => ?_) (fun d2 => ?_)
  · refine WL.p h (Val.pick rfl) ?_
    refine WL.nil ?_
    refine W.condT rfl ?_
    refine W.seq (W.region rfl ?_)
    refine WL.p h Val.as ?_
    refine WL.p h Val.as ?_
    refine WL.nil ?_
    refine W.ret ?_
    exact fin2 (v := .nilIface) (x := .string wType) rfl rfl rfl (PVA.no h.toExt rfl (by decide))
  omega
end Go.Proofs.Ytmiihhbgfijcmaa.K


/- Op: the program, walked: numbers. -/
namespace Go.Proofs.Ytmiihhbgfijcmaa.K
open Go Go.RowKit
set_option linter.unusedVariables false
set_option linter.unusedSimpArgs false
set_option maxRecDepth 20000
theorem rng_at {op x y S z : Int} {ok : Bool} (hn : numR op x y = rng S) (h1 : ok = true ↔ inR S) (h2 : ok = true → z = S) : (ok = true → (numR op x y).at = ([⟨3, z, ⟨#[]⟩, 0⟩], ⟨#[]⟩)) ∧ (ok = false → (numR op x y).at = ([], wRange)) := by
  constructor
  · intro e
    rw [hn, rng, if_pos (h1.1 e), h2 e]; rfl
  · intro e
    rw [hn, rng, if_neg (fun h => by rw [h1.2 h] at e; cases e)]; rfl
theorem sub_wrap {x y z : Int} (hx : inR x) (hy : inR y) (hz : z = IntKind.i64.wrap (x - y)) : ((decide (x < 0) == decide (y < 0)) = true → inR (x - y) ∧ z = x - y) ∧ ((decide (x < 0) == decide (y < 0)) = false → ((decide (z < 0) == decide (x < 0)) = true ↔ inR (x - y)) ∧ ((decide (z < 0) == decide (x < 0)) = true → z = x - y)) := by
  unfold inR at *
  rw [IntKind.wrap_i64] at hz
  by_cases e1 : x < 0 <;> by_cases e2 : y < 0 <;> by_cases e3 : z < 0 <;> simp [e1, e2, e3] <;> omega
theorem un_num {x : Int} (hx : inR x) : (rng (-x)).at = outA (unV 2 (.int x)) := by
  rw [wrapN x hx]
  unfold unV
  by_cases h : x = -9223372036854775808
  · simp only [h, if_true, Nr.at]; rfl
  · simp only [h, if_false, if_true, Nr.at]; rfl
theorem un_small (v : V) : (packV (unV 2 v).1).length ≤ 1048576 := by
  cases v <;> simp [unV, packV]
  split <;> simp [packV]
set_option maxHeartbeats 4000000 in
theorem op11_calls (F : Fz) (w0 : World) (hF : Sub F (hv w0)) {a b : Value} {t u : T} (ha : Arg F t a) (hb : Arg F u b) : Calls Try.prog 61 #[.int .i64 11, a, b] w0 (PVA F w0 (opT 11 t u)) := by
  obtain ⟨x, ok1, hk1, hx, hT1⟩ := ha.w2
  obtain ⟨y, ok2, hk2, hy, hT2⟩ := hb.w2
  obtain ⟨z, hz⟩ : ∃ z, z = IntKind.i64.wrap (t.atom.n - u.atom.n) := ⟨_, rfl⟩
  obtain ⟨hz1, hz2⟩ := sub_wrap ha.vt.num hb.vt.num hz
  refine calls 371 Try.func61 rfl rfl rfl ?_
  have h := Hp.start hF
  refine W.seq (W.region rfl ?_)
  refine WL.p h Val.as ?_
  refine WL.p h Val.as ?_
  refine WL.nil ?_
  refine W.seq (W.seq (W.region rfl ?_))
  refine WL.p h Val.mv ?_
  refine WL.p h (Val.lt (a := 11) (b := 1) rfl rfl) ?_
  refine WL.p h Val.mv ?_
  refine WL.p h Val.mv ?_
  refine WL.p h (Val.gt (a := 11) (b := 14) rfl rfl) ?_
  refine WL.p h (Val.pick rfl) ?_
  refine WL.nil ?_
  refine W.condF rfl ?_
  refine W.skip ?_
  refine W.seq (W.seq (W.region rfl ?_))
  refine WL.p h Val.mv ?_
  refine WL.nil ?_
  refine W.block ?_
  refine W.seq (W.region rfl ?_)
  refine WL.p h (Val.eq (a := 11) (b := 3) rfl rfl) ?_
  refine WL.p h Val.as ?_
  refine WL.nil ?_
  refine W.condF rfl ?_
  refine W.seq (W.region rfl ?_)
  refine WL.p h (Val.eq (a := 11) (b := 4) rfl rfl) ?_
  refine WL.p h Val.as ?_
  refine WL.nil ?_
  refine W.condF rfl ?_
  refine W.seq (W.seq (W.region rfl ?_))
  refine WL.p h (Val.eq (a := 11) (b := 5) rfl rfl) ?_
  refine WL.p h Val.as ?_
  refine WL.nil ?_
  refine W.condF rfl ?_
  refine W.seq (W.region rfl ?_)
  refine WL.p h (Val.eq (a := 11) (b := 6) rfl rfl) ?_
  refine WL.p h Val.as ?_
  refine WL.nil ?_
  refine W.condF rfl ?_
  refine W.seq (W.region rfl ?_)
  refine WL.p h (Val.eq (a := 11) (b := 7) rfl rfl) ?_
  refine WL.p h Val.as ?_
  refine WL.nil ?_
  refine W.condF rfl ?_
  refine W.region rfl ?_
  refine WL.p h (Val.eq (a := 11) (b := 8) rfl rfl) ?_
  refine WL.p h Val.as ?_
  refine WL.nil ?_
  refine W.condF rfl ?_
  refine W.seq (W.seq (W.region rfl ?_))
  refine WL.p h (Val.eq (a := 11) (b := 1) rfl rfl) ?_
  refine WL.p h Val.as ?_
  refine WL.nil ?_
  refine W.condF rfl ?_
  refine W.region rfl ?_
  refine WL.p h (Val.eq (a := 11) (b := 2) rfl rfl) ?_
  refine WL.p h Val.as ?_
  refine WL.nil ?_
  refine W.condF rfl ?_
  refine W.seq (W.region rfl ?_)
  refine WL.p h (Val.eq (a := 11) (b := 9) rfl rfl) ?_
  refine WL.p h Val.as ?_
  refine WL.nil ?_
  refine W.condF rfl ?_
  refine W.skip ?_
  refine W.seq (W.seq (W.region rfl ?_))
  refine WL.p h Val.mv ?_
  refine WL.p h (Val.eq (a := 11) (b := 10) rfl rfl) ?_
  refine WL.nil ?_
  refine W.condF rfl ?_
  refine W.skip ?_
  refine W.seq (W.region rfl ?_)
  refine WL.p h Val.mv ?_
  refine WL.p h (Val.ta2 rfl hT1) ?_
  refine WL.p h Val.mv ?_
  refine WL.p h (Val.ext rfl rfl) ?_
  refine WL.p h (Val.ext rfl rfl) ?_
  refine WL.p h Val.as ?_
  refine WL.p h Val.as ?_
  refine WL.nil ?_
  refine W.seq (W.region rfl ?_)
  refine WL.p h Val.mv ?_
  refine WL.p h (Val.ta2 rfl hT2) ?_
  refine WL.p h Val.mv ?_
  refine WL.p h (Val.ext rfl rfl) ?_
  refine WL.p h (Val.ext rfl rfl) ?_
  refine WL.p h Val.as ?_
  refine WL.p h Val.as ?_
  refine WL.nil ?_
  refine W.seq (W.seq (W.region rfl ?_))
  refine WL.p h Val.mv ?_
  refine WL.p h (Val.not rfl) ?_
  refine WL.p h Val.mv ?_
  cases ok1 with
  | false =>
    have k1 : t.atom.k ≠ 3 := fun e => by simpa using hk1.2 e
    have hno : opT 11 t u = ([], wType) := by
      by_cases kne : t.atom.k ≠ u.atom.k
      · rw [opT, if_neg (show ¬ ((11 : Int) = 3) by decide), if_neg (show ¬ ((11 : Int) = 4) by decide), if_neg (show ¬ ((11 : Int) = 9) by decide), if_neg (show ¬ ((11 : Int) = 10) by decide), if_pos kne]
      · rw [opT, if_neg (show ¬ ((11 : Int) = 3) by decide), if_neg (show ¬ ((11 : Int) = 4) by decide), if_neg (show ¬ ((11 : Int) = 9) by decide), if_neg (show ¬ ((11 : Int) = 10) by decide), if_neg kne, if_neg (show ¬ (11 : Int) ≤ 2 by decide), if_neg (show ¬ (11 : Int) ≤ 8 by decide), if_pos k1]
    refine WL.no rfl (WL.no rfl (?_))
    refine WL.p h (Val.pick rfl) ?_
    refine WL.nil ?_
    refine W.condT rfl ?_
    refine W.seq (W.region rfl ?_)
    refine WL.p h Val.as ?_
    refine WL.p h Val.as ?_
    refine WL.nil ?_
    refine W.ret ?_
    exact fin2 (v := .nilIface) (x := .string wType) rfl rfl rfl (PVA.no h.toExt (by exact hno) (by decide))
  | true =>
  have k1 : t.atom.k = 3 := hk1.1 rfl
  refine WL.p h Val.mv ?_
  refine WL.p h (Val.not rfl) ?_
  cases ok2 with
  | false =>
    have kne : t.atom.k ≠ u.atom.k := fun e => by simpa using hk2.2 (e ▸ k1)
    have hno : opT 11 t u = ([], wType) := by
      rw [opT, if_neg (show ¬ ((11 : Int) = 3) by decide), if_neg (show ¬ ((11 : Int) = 4) by decide), if_neg (show ¬ ((11 : Int) = 9) by decide), if_neg (show ¬ ((11 : Int) = 10) by decide), if_pos kne]
    refine WL.p h (Val.pick rfl) ?_
    refine WL.nil ?_
    refine W.condT rfl ?_
    refine W.seq (W.region rfl ?_)
    refine WL.p h Val.as ?_
    refine WL.p h Val.as ?_
    refine WL.nil ?_
    refine W.ret ?_
    exact fin2 (v := .nilIface) (x := .string wType) rfl rfl rfl (PVA.no h.toExt (by exact hno) (by decide))
  | true =>
  have k2 : u.atom.k = 3 := hk2.1 rfl
  have kne : ¬ t.atom.k ≠ u.atom.k := fun e => e (by rw [k1, k2])
  have hx := hx rfl
  have hy := hy rfl
  subst hx hy
  have hxr := ha.vt.num
  have hyr := hb.vt.num
  have hN : opT 11 t u = (numR 11 t.atom.n u.atom.n).at := by
    rw [opT, if_neg (show ¬ ((11 : Int) = 3) by decide), if_neg (show ¬ ((11 : Int) = 4) by decide), if_neg (show ¬ ((11 : Int) = 9) by decide), if_neg (show ¬ ((11 : Int) = 10) by decide), if_neg kne, if_neg (show ¬ (11 : Int) ≤ 2 by decide), if_neg (show ¬ (11 : Int) ≤ 8 by decide), if_neg (show ¬ t.atom.k ≠ 3 from fun e => e k1)]
  have hS : numR 11 t.atom.n u.atom.n = rng (t.atom.n - u.atom.n) := rfl
  refine WL.p h (Val.pick rfl) ?_
  refine WL.nil ?_
  refine W.condF rfl ?_
  refine W.skip ?_
  refine W.seq (W.region rfl ?_)
  refine WL.p h Val.as ?_
  refine WL.nil ?_
  refine W.seq (W.region rfl ?_)
  refine WL.p h Val.as ?_
  refine WL.nil ?_
  refine W.seq (W.seq (W.region rfl ?_))
  refine WL.p h Val.mv ?_
  refine WL.nil ?_
  refine W.cutT (fun R w => Hp w0 F F [] w ∧ ∃ z ok, R 41 = .int .i64 z ∧ R 42 = .bool ok ∧ (ok = true → (numR 11 t.atom.n u.atom.n).at = ([⟨3, z, ⟨#[]⟩, 0⟩], ⟨#[]⟩)) ∧ (ok = false → (numR 11 t.atom.n u.atom.n).at = ([], wRange))) ?_ ?_
  · refine W.block ?_
    refine W.seq (W.region rfl ?_)
    refine WL.p h (Val.eq (a := 11) (b := 10) rfl rfl) ?_
    refine WL.p h Val.as ?_
    refine WL.nil ?_
    refine W.condF rfl ?_
    refine W.seq (W.region rfl ?_)
    refine WL.p h (Val.eq (a := 11) (b := 11) rfl rfl) ?_
    refine WL.p h Val.as ?_
    refine WL.nil ?_
    refine W.condT rfl ?_
    refine W.seq (W.region rfl ?_)
    refine WL.p h Val.mv ?_
    refine WL.p h Val.mv ?_
    refine WL.p h (Val.sub (a := t.atom.n) (b := u.atom.n) rfl rfl) ?_
    refine WL.p h Val.as ?_
    refine WL.nil ?_
    refine W.region rfl ?_
    refine WL.p h Val.mv ?_
    refine WL.p h (Val.lt (a := t.atom.n) (b := 0) rfl rfl) ?_
    refine WL.p h Val.mv ?_
    refine WL.p h (Val.lt (a := u.atom.n) (b := 0) rfl rfl) ?_
    refine WL.p h (Val.boolEq Try.underlying4 rfl rfl) ?_
    refine WL.decB (fun c => ?_) (fun c => ?_)
    · have hin := hz1 c
      refine WL.p h Val.mv ?_
      refine WL.no rfl (WL.no rfl (WL.no rfl (WL.no rfl (WL.no rfl (?_)))))
      refine WL.p h (Val.pick rfl) ?_
      refine WL.p h Val.as ?_
      refine WL.nil ?_
      exact ⟨h, z, true, (show Value.int .i64 _ = _ by rw [hz]), rfl, (rng_at hS (iff_of_true rfl hin.1) (fun _ => hin.2)).1, fun e => by cases e⟩
    have hin := hz2 c
    refine WL.p h Val.mv ?_
    refine WL.p h Val.mv ?_
    refine WL.p h (Val.lt (a := z) (b := 0) (show Value.int .i64 _ = _ by rw [hz]) rfl) ?_
    refine WL.p h Val.mv ?_
    refine WL.p h (Val.lt (a := t.atom.n) (b := 0) rfl rfl) ?_
    refine WL.p h (Val.boolEq Try.underlying4 rfl rfl) ?_
    refine WL.p h (Val.pick rfl) ?_
    refine WL.p h Val.as ?_
    refine WL.nil ?_
    exact ⟨h, z, _, (show Value.int .i64 _ = _ by rw [hz]), rfl, (rng_at hS hin.1 hin.2).1, (rng_at hS hin.1 hin.2).2⟩
  clear h
  rintro R w ⟨h, z, ok, h41, h42, hy, hn⟩
  refine W.seq (W.seq (W.region rfl ?_))
  refine WL.p h Val.mv ?_
  refine WL.p h (Val.not h42) ?_
  cases ok with
  | false =>
    refine WL.nil ?_
    refine W.condT rfl ?_
    refine W.seq (W.region rfl ?_)
    refine WL.p h Val.as ?_
    refine WL.p h Val.as ?_
    refine WL.nil ?_
    refine W.ret ?_
    exact fin2 (v := .nilIface) (x := .string wRange) rfl rfl rfl (PVA.no h.toExt (hN.trans (hn rfl)) (by decide))
  | true =>
    refine WL.nil ?_
    refine W.condF rfl ?_
    refine W.skip ?_
    refine W.seq (W.region rfl ?_)
    refine WL.p h Val.mv ?_
    refine WL.p h (Val.mkI (by kernel_rfl) h41) ?_
    refine WL.p h Val.as ?_
    refine WL.p h Val.as ?_
    refine WL.nil ?_
    refine W.ret ?_
    exact fin2 (v := .iface 2 (.int .i64 z)) (x := .string ⟨#[]⟩) rfl rfl rfl (PVA.int h.toExt (hN.trans (hy rfl)))
set_option maxHeartbeats 4000000 in
theorem op12_calls (F : Fz) (w0 : World) (hF : Sub F (hv w0)) {a b : Value} {t u : T} (ha : Arg F t a) (hb : Arg F u b) : Calls Try.prog 61 #[.int .i64 12, a, b] w0 (PVA F w0 (opT 12 t u)) := by
  obtain ⟨x, ok1, hk1, hx, hT1⟩ := ha.w2
  obtain ⟨y, ok2, hk2, hy, hT2⟩ := hb.w2
  refine calls 371 Try.func61 rfl rfl rfl ?_
  have h := Hp.start hF
  refine W.seq (W.region rfl ?_)
  refine WL.p h Val.as ?_
  refine WL.p h Val.as ?_
  refine WL.nil ?_
  refine W.seq (W.seq (W.region rfl ?_))
  refine WL.p h Val.mv ?_
  refine WL.p h (Val.lt (a := 12) (b := 1) rfl rfl) ?_
  refine WL.p h Val.mv ?_
  refine WL.p h Val.mv ?_
  refine WL.p h (Val.gt (a := 12) (b := 14) rfl rfl) ?_
  refine WL.p h (Val.pick rfl) ?_
  refine WL.nil ?_
  refine W.condF rfl ?_
  refine W.skip ?_
  refine W.seq (W.seq (W.region rfl ?_))
  refine WL.p h Val.mv ?_
  refine WL.nil ?_
  refine W.block ?_
  refine W.seq (W.region rfl ?_)
  refine WL.p h (Val.eq (a := 12) (b := 3) rfl rfl) ?_
  refine WL.p h Val.as ?_
  refine WL.nil ?_
  refine W.condF rfl ?_
  refine W.seq (W.region rfl ?_)
  refine WL.p h (Val.eq (a := 12) (b := 4) rfl rfl) ?_
  refine WL.p h Val.as ?_
  refine WL.nil ?_
  refine W.condF rfl ?_
  refine W.seq (W.seq (W.region rfl ?_))
  refine WL.p h (Val.eq (a := 12) (b := 5) rfl rfl) ?_
  refine WL.p h Val.as ?_
  refine WL.nil ?_
  refine W.condF rfl ?_
  refine W.seq (W.region rfl ?_)
  refine WL.p h (Val.eq (a := 12) (b := 6) rfl rfl) ?_
  refine WL.p h Val.as ?_
  refine WL.nil ?_
  refine W.condF rfl ?_
  refine W.seq (W.region rfl ?_)
  refine WL.p h (Val.eq (a := 12) (b := 7) rfl rfl) ?_
  refine WL.p h Val.as ?_
  refine WL.nil ?_
  refine W.condF rfl ?_
  refine W.region rfl ?_
  refine WL.p h (Val.eq (a := 12) (b := 8) rfl rfl) ?_
  refine WL.p h Val.as ?_
  refine WL.nil ?_
  refine W.condF rfl ?_
  refine W.seq (W.seq (W.region rfl ?_))
  refine WL.p h (Val.eq (a := 12) (b := 1) rfl rfl) ?_
  refine WL.p h Val.as ?_
  refine WL.nil ?_
  refine W.condF rfl ?_
  refine W.region rfl ?_
  refine WL.p h (Val.eq (a := 12) (b := 2) rfl rfl) ?_
  refine WL.p h Val.as ?_
  refine WL.nil ?_
  refine W.condF rfl ?_
  refine W.seq (W.region rfl ?_)
  refine WL.p h (Val.eq (a := 12) (b := 9) rfl rfl) ?_
  refine WL.p h Val.as ?_
  refine WL.nil ?_
  refine W.condF rfl ?_
  refine W.skip ?_
  refine W.seq (W.seq (W.region rfl ?_))
  refine WL.p h Val.mv ?_
  refine WL.p h (Val.eq (a := 12) (b := 10) rfl rfl) ?_
  refine WL.nil ?_
  refine W.condF rfl ?_
  refine W.skip ?_
  refine W.seq (W.region rfl ?_)
  refine WL.p h Val.mv ?_
  refine WL.p h (Val.ta2 rfl hT1) ?_
  refine WL.p h Val.mv ?_
  refine WL.p h (Val.ext rfl rfl) ?_
  refine WL.p h (Val.ext rfl rfl) ?_
  refine WL.p h Val.as ?_
  refine WL.p h Val.as ?_
  refine WL.nil ?_
  refine W.seq (W.region rfl ?_)
  refine WL.p h Val.mv ?_
  refine WL.p h (Val.ta2 rfl hT2) ?_
  refine WL.p h Val.mv ?_
  refine WL.p h (Val.ext rfl rfl) ?_
  refine WL.p h (Val.ext rfl rfl) ?_
  refine WL.p h Val.as ?_
  refine WL.p h Val.as ?_
  refine WL.nil ?_
  refine W.seq (W.seq (W.region rfl ?_))
  refine WL.p h Val.mv ?_
  refine WL.p h (Val.not rfl) ?_
  refine WL.p h Val.mv ?_
  cases ok1 with
  | false =>
    have k1 : t.atom.k ≠ 3 := fun e => by simpa using hk1.2 e
    have hno : opT 12 t u = ([], wType) := by
      by_cases kne : t.atom.k ≠ u.atom.k
      · rw [opT, if_neg (show ¬ ((12 : Int) = 3) by decide), if_neg (show ¬ ((12 : Int) = 4) by decide), if_neg (show ¬ ((12 : Int) = 9) by decide), if_neg (show ¬ ((12 : Int) = 10) by decide), if_pos kne]
      · rw [opT, if_neg (show ¬ ((12 : Int) = 3) by decide), if_neg (show ¬ ((12 : Int) = 4) by decide), if_neg (show ¬ ((12 : Int) = 9) by decide), if_neg (show ¬ ((12 : Int) = 10) by decide), if_neg kne, if_neg (show ¬ (12 : Int) ≤ 2 by decide), if_neg (show ¬ (12 : Int) ≤ 8 by decide), if_pos k1]
    refine WL.no rfl (WL.no rfl (?_))
    refine WL.p h (Val.pick rfl) ?_
    refine WL.nil ?_
    refine W.condT rfl ?_
    refine W.seq (W.region rfl ?_)
    refine WL.p h Val.as ?_
    refine WL.p h Val.as ?_
    refine WL.nil ?_
    refine W.ret ?_
    exact fin2 (v := .nilIface) (x := .string wType) rfl rfl rfl (PVA.no h.toExt (by exact hno) (by decide))
  | true =>
  have k1 : t.atom.k = 3 := hk1.1 rfl
  refine WL.p h Val.mv ?_
  refine WL.p h (Val.not rfl) ?_
  cases ok2 with
  | false =>
    have kne : t.atom.k ≠ u.atom.k := fun e => by simpa using hk2.2 (e ▸ k1)
    have hno : opT 12 t u = ([], wType) := by
      rw [opT, if_neg (show ¬ ((12 : Int) = 3) by decide), if_neg (show ¬ ((12 : Int) = 4) by decide), if_neg (show ¬ ((12 : Int) = 9) by decide), if_neg (show ¬ ((12 : Int) = 10) by decide), if_pos kne]
    refine WL.p h (Val.pick rfl) ?_
    refine WL.nil ?_
    refine W.condT rfl ?_
    refine W.seq (W.region rfl ?_)
    refine WL.p h Val.as ?_
    refine WL.p h Val.as ?_
    refine WL.nil ?_
    refine W.ret ?_
    exact fin2 (v := .nilIface) (x := .string wType) rfl rfl rfl (PVA.no h.toExt (by exact hno) (by decide))
  | true =>
  have k2 : u.atom.k = 3 := hk2.1 rfl
  have kne : ¬ t.atom.k ≠ u.atom.k := fun e => e (by rw [k1, k2])
  have hx := hx rfl
  have hy := hy rfl
  subst hx hy
  have hxr := ha.vt.num
  have hyr := hb.vt.num
  have hN : opT 12 t u = (numR 12 t.atom.n u.atom.n).at := by
    rw [opT, if_neg (show ¬ ((12 : Int) = 3) by decide), if_neg (show ¬ ((12 : Int) = 4) by decide), if_neg (show ¬ ((12 : Int) = 9) by decide), if_neg (show ¬ ((12 : Int) = 10) by decide), if_neg kne, if_neg (show ¬ (12 : Int) ≤ 2 by decide), if_neg (show ¬ (12 : Int) ≤ 8 by decide), if_neg (show ¬ t.atom.k ≠ 3 from fun e => e k1)]
  have hS : numR 12 t.atom.n u.atom.n = rng (t.atom.n * u.atom.n) := rfl
  refine WL.p h (Val.pick rfl) ?_
  refine WL.nil ?_
  refine W.condF rfl ?_
  refine W.skip ?_
  refine W.seq (W.region rfl ?_)
  refine WL.p h Val.as ?_
  refine WL.nil ?_
  refine W.seq (W.region rfl ?_)
  refine WL.p h Val.as ?_
  refine WL.nil ?_
  refine W.seq (W.seq (W.region rfl ?_))
  refine WL.p h Val.mv ?_
  refine WL.nil ?_
  refine W.cutT (fun R w => Hp w0 F F [] w ∧ ∃ z ok, R 41 = .int .i64 z ∧ R 42 = .bool ok ∧ (ok = true → (numR 12 t.atom.n u.atom.n).at = ([⟨3, z, ⟨#[]⟩, 0⟩], ⟨#[]⟩)) ∧ (ok = false → (numR 12 t.atom.n u.atom.n).at = ([], wRange))) ?_ ?_
  · refine W.block ?_
    refine W.seq (W.region rfl ?_)
    refine WL.p h (Val.eq (a := 12) (b := 10) rfl rfl) ?_
    refine WL.p h Val.as ?_
    refine WL.nil ?_
    refine W.condF rfl ?_
    refine W.seq (W.region rfl ?_)
    refine WL.p h (Val.eq (a := 12) (b := 11) rfl rfl) ?_
    refine WL.p h Val.as ?_
    refine WL.nil ?_
    refine W.condF rfl ?_
    refine W.seq (W.region rfl ?_)
    refine WL.p h (Val.eq (a := 12) (b := 12) rfl rfl) ?_
    refine WL.p h Val.as ?_
    refine WL.nil ?_
    refine W.condT rfl ?_
    refine W.region rfl ?_
    refine WL.p h Val.mv ?_
    refine WL.p h Val.mv ?_
    refine WL.call C95 (args := [.int .i64 t.atom.n, .int .i64 u.atom.n]) rfl ((mul_calls F _ h.sub t.atom.n u.atom.n hxr hyr).mono ?_)
    rintro e w' ⟨z, ok, rfl, hE, hok, hz⟩
    have h := h.call hE
    refine ⟨_, rfl, ?_⟩
    refine WL.p h Val.mv ?_
    refine WL.p h (Val.ext (v := .int .i64 z) rfl rfl) ?_
    refine WL.p h (Val.ext (v := .bool ok) rfl rfl) ?_
    refine WL.p h Val.as ?_
    refine WL.p h Val.as ?_
    refine WL.nil ?_
    exact ⟨h, z, ok, rfl, rfl, (rng_at hS hok hz).1, (rng_at hS hok hz).2⟩
  clear h
  rintro R w ⟨h, z, ok, h41, h42, hy, hn⟩
  refine W.seq (W.seq (W.region rfl ?_))
  refine WL.p h Val.mv ?_
  refine WL.p h (Val.not h42) ?_
  cases ok with
  | false =>
    refine WL.nil ?_
    refine W.condT rfl ?_
    refine W.seq (W.region rfl ?_)
    refine WL.p h Val.as ?_
    refine WL.p h Val.as ?_
    refine WL.nil ?_
    refine W.ret ?_
    exact fin2 (v := .nilIface) (x := .string wRange) rfl rfl rfl (PVA.no h.toExt (hN.trans (hn rfl)) (by decide))
  | true =>
    refine WL.nil ?_
    refine W.condF rfl ?_
    refine W.skip ?_
    refine W.seq (W.region rfl ?_)
    refine WL.p h Val.mv ?_
    refine WL.p h (Val.mkI (by kernel_rfl) h41) ?_
    refine WL.p h Val.as ?_
    refine WL.p h Val.as ?_
    refine WL.nil ?_
    refine W.ret ?_
    exact fin2 (v := .iface 2 (.int .i64 z)) (x := .string ⟨#[]⟩) rfl rfl rfl (PVA.int h.toExt (hN.trans (hy rfl)))
set_option maxHeartbeats 4000000 in
theorem op13_calls (F : Fz) (w0 : World) (hF : Sub F (hv w0)) {a b : Value} {t u : T} (ha : Arg F t a) (hb : Arg F u b) : Calls Try.prog 61 #[.int .i64 13, a, b] w0 (PVA F w0 (opT 13 t u)) := by
  obtain ⟨x, ok1, hk1, hx, hT1⟩ := ha.w2
  obtain ⟨y, ok2, hk2, hy, hT2⟩ := hb.w2
  refine calls 371 Try.func61 rfl rfl rfl ?_
  have h := Hp.start hF
  refine W.seq (W.region rfl ?_)
  refine WL.p h Val.as ?_
  refine WL.p h Val.as ?_
  refine WL.nil ?_
  refine W.seq (W.seq (W.region rfl ?_))
  refine WL.p h Val.mv ?_
  refine WL.p h (Val.lt (a := 13) (b := 1) rfl rfl) ?_
  refine WL.p h Val.mv ?_
  refine WL.p h Val.mv ?_
  refine WL.p h (Val.gt (a := 13) (b := 14) rfl rfl) ?_
  refine WL.p h (Val.pick rfl) ?_
  refine WL.nil ?_
  refine W.condF rfl ?_
  refine W.skip ?_
  refine W.seq (W.seq (W.region rfl ?_))
  refine WL.p h Val.mv ?_
  refine WL.nil ?_
  refine W.block ?_
  refine W.seq (W.region rfl ?_)
  refine WL.p h (Val.eq (a := 13) (b := 3) rfl rfl) ?_
  refine WL.p h Val.as ?_
  refine WL.nil ?_
  refine W.condF rfl ?_
  refine W.seq (W.region rfl ?_)
  refine WL.p h (Val.eq (a := 13) (b := 4) rfl rfl) ?_
  refine WL.p h Val.as ?_
  refine WL.nil ?_
  refine W.condF rfl ?_
  refine W.seq (W.seq (W.region rfl ?_))
  refine WL.p h (Val.eq (a := 13) (b := 5) rfl rfl) ?_
  refine WL.p h Val.as ?_
  refine WL.nil ?_
  refine W.condF rfl ?_
  refine W.seq (W.region rfl ?_)
  refine WL.p h (Val.eq (a := 13) (b := 6) rfl rfl) ?_
  refine WL.p h Val.as ?_
  refine WL.nil ?_
  refine W.condF rfl ?_
  refine W.seq (W.region rfl ?_)
  refine WL.p h (Val.eq (a := 13) (b := 7) rfl rfl) ?_
  refine WL.p h Val.as ?_
  refine WL.nil ?_
  refine W.condF rfl ?_
  refine W.region rfl ?_
  refine WL.p h (Val.eq (a := 13) (b := 8) rfl rfl) ?_
  refine WL.p h Val.as ?_
  refine WL.nil ?_
  refine W.condF rfl ?_
  refine W.seq (W.seq (W.region rfl ?_))
  refine WL.p h (Val.eq (a := 13) (b := 1) rfl rfl) ?_
  refine WL.p h Val.as ?_
  refine WL.nil ?_
  refine W.condF rfl ?_
  refine W.region rfl ?_
  refine WL.p h (Val.eq (a := 13) (b := 2) rfl rfl) ?_
  refine WL.p h Val.as ?_
  refine WL.nil ?_
  refine W.condF rfl ?_
  refine W.seq (W.region rfl ?_)
  refine WL.p h (Val.eq (a := 13) (b := 9) rfl rfl) ?_
  refine WL.p h Val.as ?_
  refine WL.nil ?_
  refine W.condF rfl ?_
  refine W.skip ?_
  refine W.seq (W.seq (W.region rfl ?_))
  refine WL.p h Val.mv ?_
  refine WL.p h (Val.eq (a := 13) (b := 10) rfl rfl) ?_
  refine WL.nil ?_
  refine W.condF rfl ?_
  refine W.skip ?_
  refine W.seq (W.region rfl ?_)
  refine WL.p h Val.mv ?_
  refine WL.p h (Val.ta2 rfl hT1) ?_
  refine WL.p h Val.mv ?_
  refine WL.p h (Val.ext rfl rfl) ?_
  refine WL.p h (Val.ext rfl rfl) ?_
  refine WL.p h Val.as ?_
  refine WL.p h Val.as ?_
  refine WL.nil ?_
  refine W.seq (W.region rfl ?_)
  refine WL.p h Val.mv ?_
  refine WL.p h (Val.ta2 rfl hT2) ?_
  refine WL.p h Val.mv ?_
  refine WL.p h (Val.ext rfl rfl) ?_
  refine WL.p h (Val.ext rfl rfl) ?_
  refine WL.p h Val.as ?_
  refine WL.p h Val.as ?_
  refine WL.nil ?_
  refine W.seq (W.seq (W.region rfl ?_))
  refine WL.p h Val.mv ?_
  refine WL.p h (Val.not rfl) ?_
  refine WL.p h Val.mv ?_
  cases ok1 with
  | false =>
    have k1 : t.atom.k ≠ 3 := fun e => by simpa using hk1.2 e
    have hno : opT 13 t u = ([], wType) := by
      by_cases kne : t.atom.k ≠ u.atom.k
      · rw [opT, if_neg (show ¬ ((13 : Int) = 3) by decide), if_neg (show ¬ ((13 : Int) = 4) by decide), if_neg (show ¬ ((13 : Int) = 9) by decide), if_neg (show ¬ ((13 : Int) = 10) by decide), if_pos kne]
      · rw [opT, if_neg (show ¬ ((13 : Int) = 3) by decide), if_neg (show ¬ ((13 : Int) = 4) by decide), if_neg (show ¬ ((13 : Int) = 9) by decide), if_neg (show ¬ ((13 : Int) = 10) by decide), if_neg kne, if_neg (show ¬ (13 : Int) ≤ 2 by decide), if_neg (show ¬ (13 : Int) ≤ 8 by decide), if_pos k1]
    refine WL.no rfl (WL.no rfl (?_))
    refine WL.p h (Val.pick rfl) ?_
    refine WL.nil ?_
    refine W.condT rfl ?_
    refine W.seq (W.region rfl ?_)
    refine WL.p h Val.as ?_
    refine WL.p h Val.as ?_
    refine WL.nil ?_
    refine W.ret ?_
    exact fin2 (v := .nilIface) (x := .string wType) rfl rfl rfl (PVA.no h.toExt (by exact hno) (by decide))
  | true =>
  have k1 : t.atom.k = 3 := hk1.1 rfl
  refine WL.p h Val.mv ?_
  refine WL.p h (Val.not rfl) ?_
  cases ok2 with
  | false =>
    have kne : t.atom.k ≠ u.atom.k := fun e => by simpa using hk2.2 (e ▸ k1)
    have hno : opT 13 t u = ([], wType) := by
      rw [opT, if_neg (show ¬ ((13 : Int) = 3) by decide), if_neg (show ¬ ((13 : Int) = 4) by decide), if_neg (show ¬ ((13 : Int) = 9) by decide), if_neg (show ¬ ((13 : Int) = 10) by decide), if_pos kne]
    refine WL.p h (Val.pick rfl) ?_
    refine WL.nil ?_
    refine W.condT rfl ?_
    refine W.seq (W.region rfl ?_)
    refine WL.p h Val.as ?_
    refine WL.p h Val.as ?_
    refine WL.nil ?_
    refine W.ret ?_
    exact fin2 (v := .nilIface) (x := .string wType) rfl rfl rfl (PVA.no h.toExt (by exact hno) (by decide))
  | true =>
  have k2 : u.atom.k = 3 := hk2.1 rfl
  have kne : ¬ t.atom.k ≠ u.atom.k := fun e => e (by rw [k1, k2])
  have hx := hx rfl
  have hy := hy rfl
  subst hx hy
  have hxr := ha.vt.num
  have hyr := hb.vt.num
  have hN : opT 13 t u = (numR 13 t.atom.n u.atom.n).at := by
    rw [opT, if_neg (show ¬ ((13 : Int) = 3) by decide), if_neg (show ¬ ((13 : Int) = 4) by decide), if_neg (show ¬ ((13 : Int) = 9) by decide), if_neg (show ¬ ((13 : Int) = 10) by decide), if_neg kne, if_neg (show ¬ (13 : Int) ≤ 2 by decide), if_neg (show ¬ (13 : Int) ≤ 8 by decide), if_neg (show ¬ t.atom.k ≠ 3 from fun e => e k1)]
  refine WL.p h (Val.pick rfl) ?_
  refine WL.nil ?_
  refine W.condF rfl ?_
  refine W.skip ?_
  refine W.seq (W.region rfl ?_)
  refine WL.p h Val.as ?_
  refine WL.nil ?_
  refine W.seq (W.region rfl ?_)
  refine WL.p h Val.as ?_
  refine WL.nil ?_
  refine W.seq (W.seq (W.region rfl ?_))
  refine WL.p h Val.mv ?_
  refine WL.nil ?_
  refine W.cutT (fun R w => Hp w0 F F [] w ∧ ∃ z ok, R 41 = .int .i64 z ∧ R 42 = .bool ok ∧ (ok = true → (numR 13 t.atom.n u.atom.n).at = ([⟨3, z, ⟨#[]⟩, 0⟩], ⟨#[]⟩)) ∧ (ok = false → (numR 13 t.atom.n u.atom.n).at = ([], wRange))) ?_ ?_
  · refine W.block ?_
    refine W.seq (W.region rfl ?_)
    refine WL.p h (Val.eq (a := 13) (b := 10) rfl rfl) ?_
    refine WL.p h Val.as ?_
    refine WL.nil ?_
    refine W.condF rfl ?_
    refine W.seq (W.region rfl ?_)
    refine WL.p h (Val.eq (a := 13) (b := 11) rfl rfl) ?_
    refine WL.p h Val.as ?_
    refine WL.nil ?_
    refine W.condF rfl ?_
    refine W.seq (W.region rfl ?_)
    refine WL.p h (Val.eq (a := 13) (b := 12) rfl rfl) ?_
    refine WL.p h Val.as ?_
    refine WL.nil ?_
    refine W.condF rfl ?_
    refine W.seq (W.seq (W.region rfl ?_))
    refine WL.p h Val.mv ?_
    refine WL.p h (Val.eq (a := u.atom.n) (b := 0) rfl rfl) ?_
    refine WL.dec (fun y0 => ?_) (fun y0 => ?_)
    · have hno : opT 13 t u = ([], wDivide) := by rw [hN, numR, if_neg (by decide), if_neg (by decide), if_neg (by decide), if_pos y0]; rfl
      refine WL.nil ?_
      refine W.condT rfl ?_
      refine W.seq (W.region rfl ?_)
      refine WL.p h Val.as ?_
      refine WL.p h Val.as ?_
      refine WL.nil ?_
      refine W.ret ?_
      exact fin2 (v := .nilIface) (x := .string wDivide) rfl rfl rfl (PVA.no h.toExt (by exact hno) (by decide))
    refine WL.nil ?_
    refine W.condF rfl ?_
    refine W.skip ?_
    refine W.seq (W.seq (W.region rfl ?_))
    refine WL.p h Val.mv ?_
    refine WL.p h (Val.eq (a := u.atom.n) (b := -1) rfl rfl) ?_
    refine WL.dec (fun y1 => ?_) (fun y1 => ?_)
    · have hv : opT 13 t u = outA (unV 2 (.int t.atom.n)) := by rw [hN, numR, if_neg (by decide), if_neg (by decide), if_neg (by decide), if_neg y0, if_pos y1, if_neg (by decide), un_num hxr]
      refine WL.nil ?_
      refine W.condT rfl ?_
      refine W.seq (W.seq (W.region rfl ?_))
      refine WL.p h Val.mv ?_
      refine WL.p h (Val.eq (a := 13) (b := 14) rfl rfl) ?_
      refine WL.nil ?_
      refine W.condF rfl ?_
      refine W.skip ?_
      refine W.seq (W.region rfl ?_)
      refine WL.p h Val.mv ?_
      refine WL.p h (Val.mkI (by kernel_rfl) rfl) ?_
      refine WL.call C52 (args := [.int .i64 2, .iface 2 (.int .i64 t.atom.n)]) rfl ((un_calls F _ h.sub 2 (.int t.atom.n) _ rfl).mono ?_)
      rintro e w' ⟨F8, r8, rfl, hE, hrep⟩
      have h := h.call hE
      refine ⟨_, rfl, ?_⟩
      refine WL.p h (Val.ext (v := r8) rfl rfl) ?_
      refine WL.p h (Val.ext (v := .string (unV 2 (.int t.atom.n)).2) rfl rfl) ?_
      refine WL.p h Val.as ?_
      refine WL.p h Val.as ?_
      refine WL.nil ?_
      refine W.ret ?_
      exact fin2 (v := r8) (x := .string (unV 2 (.int t.atom.n)).2) rfl rfl rfl (PVA.mk h.toExt hrep hv.symm (un_small _))
    have hqi := quot_in hxr hyr y0 y1
    unfold inR at hqi
    have hE9 : (numR 13 t.atom.n u.atom.n).at = ([⟨3, qD t.atom.n u.atom.n, ⟨#[]⟩, 0⟩], ⟨#[]⟩) := by rw [numR, if_neg (by decide), if_neg (by decide), if_neg (by decide), if_neg y0, if_neg y1, if_pos rfl]; rfl
    refine WL.nil ?_
    refine W.condF rfl ?_
    refine W.skip ?_
    refine W.seq (W.draw (fun w => Hp w0 F F [] w) [7] 8 (by kernel_rfl) rfl rfl ?_)
    have hS := h.drewN 1
    refine WD.take 0 rfl (by kernel_rfl) (fun _ _ _ h => fin_panic h) hS Val.mv ?_
    refine WD.take 1 rfl (by kernel_rfl) (fun _ _ _ h => fin_panic h) hS Val.mv ?_
    refine WD.take 2 rfl (by kernel_rfl) (fun _ _ _ h => fin_panic h) hS (Val.quoi (a := t.atom.n) (b := u.atom.n) (c := t.atom.n.tdiv u.atom.n) rfl rfl y0 ⟨rfl, hqi.1⟩) ?_
    refine WD.take 3 rfl (by kernel_rfl) (fun _ _ _ h => fin_panic h) hS Val.mv ?_
    refine WD.take 4 rfl (by kernel_rfl) (fun _ _ _ h => fin_panic h) hS Val.mv ?_
    refine WD.take 5 rfl (by kernel_rfl) (fun _ _ _ h => fin_panic h) hS (Val.rem (a := t.atom.n) (b := u.atom.n) rfl rfl y0) ?_
    refine WD.take 6 rfl (by kernel_rfl) (fun _ _ _ h => fin_panic h) hS Val.as ?_
    have h := hS
    refine WD.last 7 rfl (by kernel_rfl) rfl ?_
    refine WL.p h Val.as ?_
    refine WL.nil ?_
    refine WD.nil (by kernel_rfl) ?_
    refine W.cut (fun R w => Hp w0 F F [] w ∧ R 0 = .int .i64 13 ∧ R 42 = .bool true ∧ R 43 = .int .i64 (qD t.atom.n u.atom.n) ∧ R 44 = .int .i64 (rD t.atom.n u.atom.n)) ?_ ?_
    · refine W.seq (W.region rfl ?_)
      refine WL.p h Val.mv ?_
      refine WL.p h (Val.ne (a := t.atom.n.tmod u.atom.n) (b := 0) rfl rfl) ?_
      refine WL.dec (fun m0 => ?_) (fun m0 => ?_)
      · have hbb : (decide (t.atom.n.tmod u.atom.n < 0) != decide (u.atom.n < 0)) = true ↔ ((t.atom.n.tmod u.atom.n < 0) ≠ (u.atom.n < 0)) := by by_cases e1 : t.atom.n.tmod u.atom.n < 0 <;> by_cases e2 : u.atom.n < 0 <;> simp [e1, e2]
        refine WL.p h Val.mv ?_
        refine WL.p h Val.mv ?_
        refine WL.p h (Val.lt (a := t.atom.n.tmod u.atom.n) (b := 0) rfl rfl) ?_
        refine WL.p h Val.mv ?_
        refine WL.p h (Val.lt (a := u.atom.n) (b := 0) rfl rfl) ?_
        refine WL.p h (Val.boolNe Try.underlying4 rfl rfl) ?_
        refine WL.decB (fun m1 => ?_) (fun m1 => ?_)
        · have hc := hbb.1 m1
          have hq : qD t.atom.n u.atom.n = t.atom.n.tdiv u.atom.n - 1 := by rw [qD, if_pos ⟨m0, hc⟩]
          have hr : rD t.atom.n u.atom.n = t.atom.n.tmod u.atom.n + u.atom.n := by rw [rD, if_pos ⟨m0, hc⟩]
          refine WL.p h (Val.pick rfl) ?_
          refine WL.nil ?_
          refine W.condT rfl ?_
          refine W.seq (W.region rfl ?_)
          refine WL.p h Val.mv ?_
          refine WL.p h (Val.subi (a := t.atom.n.tdiv u.atom.n) (b := 1) (c := qD t.atom.n u.atom.n) rfl rfl ⟨hq, hqi.2.2.1 m0⟩) ?_
          refine WL.p h Val.as ?_
          refine WL.nil ?_
          refine W.region rfl ?_
          refine WL.p h Val.mv ?_
          refine WL.p h Val.mv ?_
          refine WL.p h (Val.addi (a := t.atom.n.tmod u.atom.n) (b := u.atom.n) (c := rD t.atom.n u.atom.n) rfl rfl ⟨hr, hqi.2.2.2 hc⟩) ?_
          refine WL.p h Val.as ?_
          refine WL.nil ?_
          exact ⟨h, rfl, rfl, rfl, rfl⟩
        · have hc : ¬ ((t.atom.n.tmod u.atom.n < 0) ≠ (u.atom.n < 0)) := fun e => by rw [hbb.2 e] at m1; cases m1
          have hq : qD t.atom.n u.atom.n = t.atom.n.tdiv u.atom.n := by rw [qD, if_neg (fun e => hc e.2)]
          have hr : rD t.atom.n u.atom.n = t.atom.n.tmod u.atom.n := by rw [rD, if_neg (fun e => hc e.2)]
          refine WL.p h (Val.pick rfl) ?_
          refine WL.nil ?_
          refine W.condF rfl ?_
          refine W.skip ?_
          exact ⟨h, rfl, rfl, congrArg (Value.int .i64) hq.symm, congrArg (Value.int .i64) hr.symm⟩
      · have hq : qD t.atom.n u.atom.n = t.atom.n.tdiv u.atom.n := by rw [qD, if_neg (fun e => m0 e.1)]
        have hr : rD t.atom.n u.atom.n = t.atom.n.tmod u.atom.n := by rw [rD, if_neg (fun e => m0 e.1)]
        refine WL.p h Val.mv ?_
        refine WL.no rfl (WL.no rfl (WL.no rfl (WL.no rfl (WL.no rfl (?_)))))
        refine WL.p h (Val.pick rfl) ?_
        refine WL.nil ?_
        refine W.condF rfl ?_
        refine W.skip ?_
        exact ⟨h, rfl, rfl, congrArg (Value.int .i64) hq.symm, congrArg (Value.int .i64) hr.symm⟩
    clear h hS
    rintro R w ⟨h, h0, h42, h43, h44⟩
    refine W.seq (W.region rfl ?_)
    refine WL.p h Val.mv ?_
    refine WL.p h Val.as ?_
    refine WL.nil ?_
    refine W.seq (W.region rfl ?_)
    refine WL.p h Val.mv ?_
    refine WL.p h (Val.eq (a := 13) (b := 14) h0 rfl) ?_
    refine WL.nil ?_
    refine W.condF rfl ?_
    refine W.skip ?_
    exact ⟨h, _, true, h43, h42, fun _ => hE9, fun e => by cases e⟩
  clear h
  rintro R w ⟨h, z, ok, h41, h42, hy, hn⟩
  refine W.seq (W.seq (W.region rfl ?_))
  refine WL.p h Val.mv ?_
  refine WL.p h (Val.not h42) ?_
  cases ok with
  | false =>
    refine WL.nil ?_
    refine W.condT rfl ?_
    refine W.seq (W.region rfl ?_)
    refine WL.p h Val.as ?_
    refine WL.p h Val.as ?_
    refine WL.nil ?_
    refine W.ret ?_
    exact fin2 (v := .nilIface) (x := .string wRange) rfl rfl rfl (PVA.no h.toExt (hN.trans (hn rfl)) (by decide))
  | true =>
    refine WL.nil ?_
    refine W.condF rfl ?_
    refine W.skip ?_
    refine W.seq (W.region rfl ?_)
    refine WL.p h Val.mv ?_
    refine WL.p h (Val.mkI (by kernel_rfl) h41) ?_
    refine WL.p h Val.as ?_
    refine WL.p h Val.as ?_
    refine WL.nil ?_
    refine W.ret ?_
    exact fin2 (v := .iface 2 (.int .i64 z)) (x := .string ⟨#[]⟩) rfl rfl rfl (PVA.int h.toExt (hN.trans (hy rfl)))
set_option maxHeartbeats 4000000 in
theorem op14_calls (F : Fz) (w0 : World) (hF : Sub F (hv w0)) {a b : Value} {t u : T} (ha : Arg F t a) (hb : Arg F u b) : Calls Try.prog 61 #[.int .i64 14, a, b] w0 (PVA F w0 (opT 14 t u)) := by
  obtain ⟨x, ok1, hk1, hx, hT1⟩ := ha.w2
  obtain ⟨y, ok2, hk2, hy, hT2⟩ := hb.w2
  refine calls 371 Try.func61 rfl rfl rfl ?_
  have h := Hp.start hF
  refine W.seq (W.region rfl ?_)
  refine WL.p h Val.as ?_
  refine WL.p h Val.as ?_
  refine WL.nil ?_
  refine W.seq (W.seq (W.region rfl ?_))
  refine WL.p h Val.mv ?_
  refine WL.p h (Val.lt (a := 14) (b := 1) rfl rfl) ?_
  refine WL.p h Val.mv ?_
  refine WL.p h Val.mv ?_
  refine WL.p h (Val.gt (a := 14) (b := 14) rfl rfl) ?_
  refine WL.p h (Val.pick rfl) ?_
  refine WL.nil ?_
  refine W.condF rfl ?_
  refine W.skip ?_
  refine W.seq (W.seq (W.region rfl ?_))
  refine WL.p h Val.mv ?_
  refine WL.nil ?_
  refine W.block ?_
  refine W.seq (W.region rfl ?_)
  refine WL.p h (Val.eq (a := 14) (b := 3) rfl rfl) ?_
  refine WL.p h Val.as ?_
  refine WL.nil ?_
  refine W.condF rfl ?_
  refine W.seq (W.region rfl ?_)
  refine WL.p h (Val.eq (a := 14) (b := 4) rfl rfl) ?_
  refine WL.p h Val.as ?_
  refine WL.nil ?_
  refine W.condF rfl ?_
  refine W.seq (W.seq (W.region rfl ?_))
  refine WL.p h (Val.eq (a := 14) (b := 5) rfl rfl) ?_
  refine WL.p h Val.as ?_
  refine WL.nil ?_
  refine W.condF rfl ?_
  refine W.seq (W.region rfl ?_)
  refine WL.p h (Val.eq (a := 14) (b := 6) rfl rfl) ?_
  refine WL.p h Val.as ?_
  refine WL.nil ?_
  refine W.condF rfl ?_
  refine W.seq (W.region rfl ?_)
  refine WL.p h (Val.eq (a := 14) (b := 7) rfl rfl) ?_
  refine WL.p h Val.as ?_
  refine WL.nil ?_
  refine W.condF rfl ?_
  refine W.region rfl ?_
  refine WL.p h (Val.eq (a := 14) (b := 8) rfl rfl) ?_
  refine WL.p h Val.as ?_
  refine WL.nil ?_
  refine W.condF rfl ?_
  refine W.seq (W.seq (W.region rfl ?_))
  refine WL.p h (Val.eq (a := 14) (b := 1) rfl rfl) ?_
  refine WL.p h Val.as ?_
  refine WL.nil ?_
  refine W.condF rfl ?_
  refine W.region rfl ?_
  refine WL.p h (Val.eq (a := 14) (b := 2) rfl rfl) ?_
  refine WL.p h Val.as ?_
  refine WL.nil ?_
  refine W.condF rfl ?_
  refine W.seq (W.region rfl ?_)
  refine WL.p h (Val.eq (a := 14) (b := 9) rfl rfl) ?_
  refine WL.p h Val.as ?_
  refine WL.nil ?_
  refine W.condF rfl ?_
  refine W.skip ?_
  refine W.seq (W.seq (W.region rfl ?_))
  refine WL.p h Val.mv ?_
  refine WL.p h (Val.eq (a := 14) (b := 10) rfl rfl) ?_
  refine WL.nil ?_
  refine W.condF rfl ?_
  refine W.skip ?_
  refine W.seq (W.region rfl ?_)
  refine WL.p h Val.mv ?_
  refine WL.p h (Val.ta2 rfl hT1) ?_
  refine WL.p h Val.mv ?_
  refine WL.p h (Val.ext rfl rfl) ?_
  refine WL.p h (Val.ext rfl rfl) ?_
  refine WL.p h Val.as ?_
  refine WL.p h Val.as ?_
  refine WL.nil ?_
  refine W.seq (W.region rfl ?_)
  refine WL.p h Val.mv ?_
  refine WL.p h (Val.ta2 rfl hT2) ?_
  refine WL.p h Val.mv ?_
  refine WL.p h (Val.ext rfl rfl) ?_
  refine WL.p h (Val.ext rfl rfl) ?_
  refine WL.p h Val.as ?_
  refine WL.p h Val.as ?_
  refine WL.nil ?_
  refine W.seq (W.seq (W.region rfl ?_))
  refine WL.p h Val.mv ?_
  refine WL.p h (Val.not rfl) ?_
  refine WL.p h Val.mv ?_
  cases ok1 with
  | false =>
    have k1 : t.atom.k ≠ 3 := fun e => by simpa using hk1.2 e
    have hno : opT 14 t u = ([], wType) := by
      by_cases kne : t.atom.k ≠ u.atom.k
      · rw [opT, if_neg (show ¬ ((14 : Int) = 3) by decide), if_neg (show ¬ ((14 : Int) = 4) by decide), if_neg (show ¬ ((14 : Int) = 9) by decide), if_neg (show ¬ ((14 : Int) = 10) by decide), if_pos kne]
      · rw [opT, if_neg (show ¬ ((14 : Int) = 3) by decide), if_neg (show ¬ ((14 : Int) = 4) by decide), if_neg (show ¬ ((14 : Int) = 9) by decide), if_neg (show ¬ ((14 : Int) = 10) by decide), if_neg kne, if_neg (show ¬ (14 : Int) ≤ 2 by decide), if_neg (show ¬ (14 : Int) ≤ 8 by decide), if_pos k1]
    refine WL.no rfl (WL.no rfl (?_))
    refine WL.p h (Val.pick rfl) ?_
    refine WL.nil ?_
    refine W.condT rfl ?_
    refine W.seq (W.region rfl ?_)
    refine WL.p h Val.as ?_
    refine WL.p h Val.as ?_
    refine WL.nil ?_
    refine W.ret ?_
    exact fin2 (v := .nilIface) (x := .string wType) rfl rfl rfl (PVA.no h.toExt (by exact hno) (by decide))
  | true =>
  have k1 : t.atom.k = 3 := hk1.1 rfl
  refine WL.p h Val.mv ?_
  refine WL.p h (Val.not rfl) ?_
  cases ok2 with
  | false =>
    have kne : t.atom.k ≠ u.atom.k := fun e => by simpa using hk2.2 (e ▸ k1)
    have hno : opT 14 t u = ([], wType) := by
      rw [opT, if_neg (show ¬ ((14 : Int) = 3) by decide), if_neg (show ¬ ((14 : Int) = 4) by decide), if_neg (show ¬ ((14 : Int) = 9) by decide), if_neg (show ¬ ((14 : Int) = 10) by decide), if_pos kne]
    refine WL.p h (Val.pick rfl) ?_
    refine WL.nil ?_
    refine W.condT rfl ?_
    refine W.seq (W.region rfl ?_)
    refine WL.p h Val.as ?_
    refine WL.p h Val.as ?_
    refine WL.nil ?_
    refine W.ret ?_
    exact fin2 (v := .nilIface) (x := .string wType) rfl rfl rfl (PVA.no h.toExt (by exact hno) (by decide))
  | true =>
  have k2 : u.atom.k = 3 := hk2.1 rfl
  have kne : ¬ t.atom.k ≠ u.atom.k := fun e => e (by rw [k1, k2])
  have hx := hx rfl
  have hy := hy rfl
  subst hx hy
  have hxr := ha.vt.num
  have hyr := hb.vt.num
  have hN : opT 14 t u = (numR 14 t.atom.n u.atom.n).at := by
    rw [opT, if_neg (show ¬ ((14 : Int) = 3) by decide), if_neg (show ¬ ((14 : Int) = 4) by decide), if_neg (show ¬ ((14 : Int) = 9) by decide), if_neg (show ¬ ((14 : Int) = 10) by decide), if_neg kne, if_neg (show ¬ (14 : Int) ≤ 2 by decide), if_neg (show ¬ (14 : Int) ≤ 8 by decide), if_neg (show ¬ t.atom.k ≠ 3 from fun e => e k1)]
  refine WL.p h (Val.pick rfl) ?_
  refine WL.nil ?_
  refine W.condF rfl ?_
  refine W.skip ?_
  refine W.seq (W.region rfl ?_)
  refine WL.p h Val.as ?_
  refine WL.nil ?_
  refine W.seq (W.region rfl ?_)
  refine WL.p h Val.as ?_
  refine WL.nil ?_
  refine W.seq (W.seq (W.region rfl ?_))
  refine WL.p h Val.mv ?_
  refine WL.nil ?_
  refine W.cutT (fun R w => Hp w0 F F [] w ∧ ∃ z ok, R 41 = .int .i64 z ∧ R 42 = .bool ok ∧ (ok = true → (numR 14 t.atom.n u.atom.n).at = ([⟨3, z, ⟨#[]⟩, 0⟩], ⟨#[]⟩)) ∧ (ok = false → (numR 14 t.atom.n u.atom.n).at = ([], wRange))) ?_ ?_
  · refine W.block ?_
    refine W.seq (W.region rfl ?_)
    refine WL.p h (Val.eq (a := 14) (b := 10) rfl rfl) ?_
    refine WL.p h Val.as ?_
    refine WL.nil ?_
    refine W.condF rfl ?_
    refine W.seq (W.region rfl ?_)
    refine WL.p h (Val.eq (a := 14) (b := 11) rfl rfl) ?_
    refine WL.p h Val.as ?_
    refine WL.nil ?_
    refine W.condF rfl ?_
    refine W.seq (W.region rfl ?_)
    refine WL.p h (Val.eq (a := 14) (b := 12) rfl rfl) ?_
    refine WL.p h Val.as ?_
    refine WL.nil ?_
    refine W.condF rfl ?_
    refine W.seq (W.seq (W.region rfl ?_))
    refine WL.p h Val.mv ?_
    refine WL.p h (Val.eq (a := u.atom.n) (b := 0) rfl rfl) ?_
    refine WL.dec (fun y0 => ?_) (fun y0 => ?_)
    · have hno : opT 14 t u = ([], wDivide) := by rw [hN, numR, if_neg (by decide), if_neg (by decide), if_neg (by decide), if_pos y0]; rfl
      refine WL.nil ?_
      refine W.condT rfl ?_
      refine W.seq (W.region rfl ?_)
      refine WL.p h Val.as ?_
      refine WL.p h Val.as ?_
      refine WL.nil ?_
      refine W.ret ?_
      exact fin2 (v := .nilIface) (x := .string wDivide) rfl rfl rfl (PVA.no h.toExt (by exact hno) (by decide))
    refine WL.nil ?_
    refine W.condF rfl ?_
    refine W.skip ?_
    refine W.seq (W.seq (W.region rfl ?_))
    refine WL.p h Val.mv ?_
    refine WL.p h (Val.eq (a := u.atom.n) (b := -1) rfl rfl) ?_
    refine WL.dec (fun y1 => ?_) (fun y1 => ?_)
    · have hv : opT 14 t u = ([⟨3, 0, ⟨#[]⟩, 0⟩], ⟨#[]⟩) := by rw [hN, numR, if_neg (by decide), if_neg (by decide), if_neg (by decide), if_neg y0, if_pos y1]; rfl
      refine WL.nil ?_
      refine W.condT rfl ?_
      refine W.seq (W.seq (W.region rfl ?_))
      refine WL.p h Val.mv ?_
      refine WL.p h (Val.eq (a := 14) (b := 14) rfl rfl) ?_
      refine WL.nil ?_
      refine W.condT rfl ?_
      refine W.seq (W.region rfl ?_)
      refine WL.p h (Val.mkI (by kernel_rfl) rfl) ?_
      refine WL.p h Val.as ?_
      refine WL.p h Val.as ?_
      refine WL.nil ?_
      refine W.ret ?_
      exact fin2 (v := .iface 2 (.int .i64 0)) (x := .string ⟨#[]⟩) rfl rfl rfl (PVA.int h.toExt hv)
    have hqi := quot_in hxr hyr y0 y1
    unfold inR at hqi
    have hE9 : (numR 14 t.atom.n u.atom.n).at = ([⟨3, rD t.atom.n u.atom.n, ⟨#[]⟩, 0⟩], ⟨#[]⟩) := by rw [numR, if_neg (by decide), if_neg (by decide), if_neg (by decide), if_neg y0, if_neg y1, if_neg (by decide)]; rfl
    refine WL.nil ?_
    refine W.condF rfl ?_
    refine W.skip ?_
    refine W.seq (W.draw (fun w => Hp w0 F F [] w) [7] 8 (by kernel_rfl) rfl rfl ?_)
    have hS := h.drewN 1
    refine WD.take 0 rfl (by kernel_rfl) (fun _ _ _ h => fin_panic h) hS Val.mv ?_
    refine WD.take 1 rfl (by kernel_rfl) (fun _ _ _ h => fin_panic h) hS Val.mv ?_
    refine WD.take 2 rfl (by kernel_rfl) (fun _ _ _ h => fin_panic h) hS (Val.quoi (a := t.atom.n) (b := u.atom.n) (c := t.atom.n.tdiv u.atom.n) rfl rfl y0 ⟨rfl, hqi.1⟩) ?_
    refine WD.take 3 rfl (by kernel_rfl) (fun _ _ _ h => fin_panic h) hS Val.mv ?_
    refine WD.take 4 rfl (by kernel_rfl) (fun _ _ _ h => fin_panic h) hS Val.mv ?_
    refine WD.take 5 rfl (by kernel_rfl) (fun _ _ _ h => fin_panic h) hS (Val.rem (a := t.atom.n) (b := u.atom.n) rfl rfl y0) ?_
    refine WD.take 6 rfl (by kernel_rfl) (fun _ _ _ h => fin_panic h) hS Val.as ?_
    have h := hS
    refine WD.last 7 rfl (by kernel_rfl) rfl ?_
    refine WL.p h Val.as ?_
    refine WL.nil ?_
    refine WD.nil (by kernel_rfl) ?_
    refine W.cut (fun R w => Hp w0 F F [] w ∧ R 0 = .int .i64 14 ∧ R 42 = .bool true ∧ R 43 = .int .i64 (qD t.atom.n u.atom.n) ∧ R 44 = .int .i64 (rD t.atom.n u.atom.n)) ?_ ?_
    · refine W.seq (W.region rfl ?_)
      refine WL.p h Val.mv ?_
      refine WL.p h (Val.ne (a := t.atom.n.tmod u.atom.n) (b := 0) rfl rfl) ?_
      refine WL.dec (fun m0 => ?_) (fun m0 => ?_)
      · have hbb : (decide (t.atom.n.tmod u.atom.n < 0) != decide (u.atom.n < 0)) = true ↔ ((t.atom.n.tmod u.atom.n < 0) ≠ (u.atom.n < 0)) := by by_cases e1 : t.atom.n.tmod u.atom.n < 0 <;> by_cases e2 : u.atom.n < 0 <;> simp [e1, e2]
        refine WL.p h Val.mv ?_
        refine WL.p h Val.mv ?_
        refine WL.p h (Val.lt (a := t.atom.n.tmod u.atom.n) (b := 0) rfl rfl) ?_
        refine WL.p h Val.mv ?_
        refine WL.p h (Val.lt (a := u.atom.n) (b := 0) rfl rfl) ?_
        refine WL.p h (Val.boolNe Try.underlying4 rfl rfl) ?_
        refine WL.decB (fun m1 => ?_) (fun m1 => ?_)
        · have hc := hbb.1 m1
          have hq : qD t.atom.n u.atom.n = t.atom.n.tdiv u.atom.n - 1 := by rw [qD, if_pos ⟨m0, hc⟩]
          have hr : rD t.atom.n u.atom.n = t.atom.n.tmod u.atom.n + u.atom.n := by rw [rD, if_pos ⟨m0, hc⟩]
          refine WL.p h (Val.pick rfl) ?_
          refine WL.nil ?_
          refine W.condT rfl ?_
          refine W.seq (W.region rfl ?_)
          refine WL.p h Val.mv ?_
          refine WL.p h (Val.subi (a := t.atom.n.tdiv u.atom.n) (b := 1) (c := qD t.atom.n u.atom.n) rfl rfl ⟨hq, hqi.2.2.1 m0⟩) ?_
          refine WL.p h Val.as ?_
          refine WL.nil ?_
          refine W.region rfl ?_
          refine WL.p h Val.mv ?_
          refine WL.p h Val.mv ?_
          refine WL.p h (Val.addi (a := t.atom.n.tmod u.atom.n) (b := u.atom.n) (c := rD t.atom.n u.atom.n) rfl rfl ⟨hr, hqi.2.2.2 hc⟩) ?_
          refine WL.p h Val.as ?_
          refine WL.nil ?_
          exact ⟨h, rfl, rfl, rfl, rfl⟩
        · have hc : ¬ ((t.atom.n.tmod u.atom.n < 0) ≠ (u.atom.n < 0)) := fun e => by rw [hbb.2 e] at m1; cases m1
          have hq : qD t.atom.n u.atom.n = t.atom.n.tdiv u.atom.n := by rw [qD, if_neg (fun e => hc e.2)]
          have hr : rD t.atom.n u.atom.n = t.atom.n.tmod u.atom.n := by rw [rD, if_neg (fun e => hc e.2)]
          refine WL.p h (Val.pick rfl) ?_
          refine WL.nil ?_
          refine W.condF rfl ?_
          refine W.skip ?_
          exact ⟨h, rfl, rfl, congrArg (Value.int .i64) hq.symm, congrArg (Value.int .i64) hr.symm⟩
      · have hq : qD t.atom.n u.atom.n = t.atom.n.tdiv u.atom.n := by rw [qD, if_neg (fun e => m0 e.1)]
        have hr : rD t.atom.n u.atom.n = t.atom.n.tmod u.atom.n := by rw [rD, if_neg (fun e => m0 e.1)]
        refine WL.p h Val.mv ?_
        refine WL.no rfl (WL.no rfl (WL.no rfl (WL.no rfl (WL.no rfl (?_)))))
        refine WL.p h (Val.pick rfl) ?_
        refine WL.nil ?_
        refine W.condF rfl ?_
        refine W.skip ?_
        exact ⟨h, rfl, rfl, congrArg (Value.int .i64) hq.symm, congrArg (Value.int .i64) hr.symm⟩
    clear h hS
    rintro R w ⟨h, h0, h42, h43, h44⟩
    refine W.seq (W.region rfl ?_)
    refine WL.p h Val.mv ?_
    refine WL.p h Val.as ?_
    refine WL.nil ?_
    refine W.seq (W.region rfl ?_)
    refine WL.p h Val.mv ?_
    refine WL.p h (Val.eq (a := 14) (b := 14) h0 rfl) ?_
    refine WL.nil ?_
    refine W.condT rfl ?_
    refine W.region rfl ?_
    refine WL.p h Val.mv ?_
    refine WL.p h Val.as ?_
    refine WL.nil ?_
    exact ⟨h, _, true, h44, h42, fun _ => hE9, fun e => by cases e⟩
  clear h
  rintro R w ⟨h, z, ok, h41, h42, hy, hn⟩
  refine W.seq (W.seq (W.region rfl ?_))
  refine WL.p h Val.mv ?_
  refine WL.p h (Val.not h42) ?_
  cases ok with
  | false =>
    refine WL.nil ?_
    refine W.condT rfl ?_
    refine W.seq (W.region rfl ?_)
    refine WL.p h Val.as ?_
    refine WL.p h Val.as ?_
    refine WL.nil ?_
    refine W.ret ?_
    exact fin2 (v := .nilIface) (x := .string wRange) rfl rfl rfl (PVA.no h.toExt (hN.trans (hn rfl)) (by decide))
  | true =>
    refine WL.nil ?_
    refine W.condF rfl ?_
    refine W.skip ?_
    refine W.seq (W.region rfl ?_)
    refine WL.p h Val.mv ?_
    refine WL.p h (Val.mkI (by kernel_rfl) h41) ?_
    refine WL.p h Val.as ?_
    refine WL.p h Val.as ?_
    refine WL.nil ?_
    refine W.ret ?_
    exact fin2 (v := .iface 2 (.int .i64 z)) (x := .string ⟨#[]⟩) rfl rfl rfl (PVA.int h.toExt (hN.trans (hy rfl)))
end Go.Proofs.Ytmiihhbgfijcmaa.K


