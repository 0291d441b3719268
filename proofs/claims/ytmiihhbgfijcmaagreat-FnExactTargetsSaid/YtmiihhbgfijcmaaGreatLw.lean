/- The laws' helpers on worlds: sizes, copies, comparisons. -/
import Derived.Test.YtmiihhbgfijcmaaGreatVw
namespace Go.Proofs.YtmiihhbgfijcmaaGreat.K
open Go Go.RowKit
set_option linter.unusedVariables false
set_option linter.unusedSimpArgs false
set_option maxRecDepth 20000
structure Fl where
  name : ByteArray
  text : ByteArray
instance : DecidableEq Fl := fun a b => if h : a.name = b.name ∧ a.text = b.text then isTrue (by cases a; cases b; simp_all) else isFalse (by rintro rfl; exact h ⟨rfl, rfl⟩)
def Fl.cells (f : Fl) : List Value := [.string f.name, .string f.text]
def rowF (fs : List Fl) : List Value := fs.flatMap Fl.cells
theorem Fl.len (f : Fl) : f.cells.length = 2 := rfl
theorem rowF_len (fs : List Fl) : (rowF fs).length = fs.length * 2 := flat_len Fl.cells Fl.len fs
theorem fl_one (f : Fl) : ∀ v ∈ f.cells, v.oneCell' = true := by simp [Fl.cells, Value.oneCell']
def sc (s : ByteArray) : List Value := [.string s]
theorem sc_len (s : ByteArray) : (sc s).length = 1 := rfl
def rowSf (ns : List ByteArray) : List Value := ns.flatMap sc
theorem rowSf_len (ns : List ByteArray) : (rowSf ns).length = ns.length := by rw [rowSf, flat_len sc sc_len, Nat.mul_one]
theorem C38 : CF Tryz.prog 80 := ⟨_, Tryz.func80, rfl, rfl⟩
def szJ (w0 : World) (F : Fz) (v : Value) (n : Nat) (left : Int) (m : Nat) (R : Regs) (w : World) : Prop :=
  ∃ (i : Nat) (l : Int), m + i = n ∧ Hp w0 F F [] w ∧ 0 ≤ l ∧ l + n ≤ left ∧ R 0 = v ∧ R 1 = .int .i64 l ∧ R 5 = .int .i64 (i : Int)
def fillR {α : Type} (f : α → List Value) (z : α) (es : List α) (i : Nat) : List Value := (es.take i).flatMap f ++ (List.replicate (es.length - i) z).flatMap f
theorem fillR_len {α : Type} {sz : Nat} (f : α → List Value) (hf : ∀ a, (f a).length = sz) (z : α) (es : List α) (i : Nat) (hi : i ≤ es.length) : (fillR f z es i).length = es.length * sz := by
  rw [fillR, List.length_append, flat_len f hf, flat_len f hf, ← Nat.add_mul]; congr 1; simp; omega
def toJ {α : Type} (w0 : World) (F : Fz) (v : Value) (f : α → List Value) (z : α) (es : List α) (T b : Nat) (m : Nat) (R : Regs) (w : World) : Prop :=
  ∃ (i : Nat), m + i = es.length ∧ Hp w0 F F [.box b (fillR f z es i) T] w ∧ R 0 = v ∧ R 3 = .slice (some ⟨b, 0, none⟩) es.length es.length ∧ R 4 = .int .i64 (i : Int)
def eqJ {α : Type} (w0 : World) (F : Fz) (v u : Value) (es fs : List α) (m : Nat) (R : Regs) (w : World) : Prop :=
  ∃ (i : Nat), m + i = es.length ∧ Hp w0 F F [] w ∧ es.take i = fs.take i ∧ R 0 = v ∧ R 1 = u ∧ R 5 = .int .i64 (i : Int)
theorem eqStringS_calls (F : Fz) (w0 : World) (hF : Sub F (hv w0)) (v u : Value) (es fs : List ByteArray) (hr : FRow F v es.length 1 (rowSf es)) (hs : FRow F u fs.length 1 (rowSf fs)) :
    Calls Tryz.prog 80 #[v, u] w0 fun e w' => e = .returned (.bool (decide (es = fs))) ∧ Ext F w0 F w' := by
  refine calls 26 Tryz.func80 rfl rfl rfl ?_
  have h := Hp.start hF
  have hmax := hr.max
  refine W.seq (W.region rfl ?_)
  refine WL.p h Val.as ?_
  refine WL.nil ?_
  refine W.seq (W.seq (W.region rfl ?_))
  refine WL.p h Val.mv ?_
  refine WL.p h (Val.len Tryz.underlying41 rfl hr.val) ?_
  refine WL.p h Val.mv ?_
  refine WL.p h (Val.len Tryz.underlying41 rfl hs.val) ?_
  refine WL.p h (Val.ne rfl rfl) ?_
  refine WL.dec (fun c1 => ?_) (fun c1 => ?_)
  · refine WL.nil ?_
    refine W.condT rfl ?_
    refine W.seq (W.region rfl ?_)
    refine WL.p h Val.as ?_
    refine WL.nil ?_
    refine W.ret ?_
    exact fin1 (v := .bool false) rfl rfl ⟨by rw [decide_eq_false (fun e => by rw [e] at c1; exact c1 rfl)], h.toExt⟩
  refine WL.nil ?_
  refine W.condF rfl ?_
  refine W.skip ?_
  have hlen : es.length = fs.length := by omega
  refine W.seq (W.seq (W.region rfl ?_))
  refine WL.p h Val.as ?_
  refine WL.nil ?_
  refine W.block ?_
  refine W.loop (eqJ w0 F v u es fs) es.length ?_ (fun m R w hI => ?_)
  · exact ⟨0, by omega, h, rfl, rfl, rfl, rfl⟩
  clear h
  obtain ⟨i, hm, h, heq, h0, h1, h5⟩ := hI
  refine W.seq (W.seq (W.region rfl ?_))
  refine WL.p h Val.mv ?_
  refine WL.p h Val.mv ?_
  refine WL.p h (Val.len Tryz.underlying41 h0 hr.val) ?_
  refine WL.p h (Val.lt h5 rfl) ?_
  refine WL.dec (fun c2 => ?_) (fun c2 => ?_)
  · have hlt : i < es.length := by omega
    obtain ⟨a, ha⟩ : ∃ a, es[i]? = some a := ⟨_, List.getElem?_eq_getElem hlt⟩
    obtain ⟨b, hb⟩ : ∃ b, fs[i]? = some b := ⟨_, List.getElem?_eq_getElem (by omega)⟩
    refine WL.nil ?_
    refine W.condT rfl ?_
    refine W.skip ?_
    refine W.seq (W.block ?_)
    refine W.seq (W.draw (fun w => Hp w0 F F [] w) [] 9 (by kernel_rfl) rfl rfl ?_)
    have hS := h.drewN 1
    refine WD.take 0 rfl (by kernel_rfl) (fun _ _ _ h => fin_panic h) hS Val.mv ?_
    refine WD.take 1 rfl (by kernel_rfl) (fun _ _ _ h => fin_panic h) hS Val.mv ?_
    refine WD.take 2 rfl (by kernel_rfl) (fun _ _ _ h => fin_panic h) hS (Val.ix Tryz.underlying41 T9 h0 h5 (hr.slice (by omega)) hlt) ?_
    refine WD.take 3 rfl (by kernel_rfl) (fun _ _ _ h => fin_panic h) hS (Val.ldR A9 hr rfl (flat_get sc sc_len es i 0 a _ ha rfl)) ?_
    refine WD.take 4 rfl (by kernel_rfl) (fun _ _ _ h => fin_panic h) hS Val.mv ?_
    refine WD.take 5 rfl (by kernel_rfl) (fun _ _ _ h => fin_panic h) hS Val.mv ?_
    refine WD.take 6 rfl (by kernel_rfl) (fun _ _ _ h => fin_panic h) hS (Val.ix Tryz.underlying41 T9 h1 h5 (hs.slice (by omega)) (by omega)) ?_
    refine WD.take 7 rfl (by kernel_rfl) (fun _ _ _ h => fin_panic h) hS (Val.ldR A9 hs rfl (flat_get sc sc_len fs i 0 b _ hb rfl)) ?_
    refine WD.take 8 rfl (by kernel_rfl) (fun _ _ _ h => fin_panic h) hS (Val.sNe rfl rfl) ?_
    refine WD.nil (by kernel_rfl) ?_
    have h := hS
    by_cases hab : a = b
    · refine W.condF (show Value.bool (decide (_ ≠ _)) = _ by simp [hab]) ?_
      refine W.skip ?_
      refine W.region rfl ?_
      refine WL.p h Val.mv ?_
      refine WL.p h (Val.addi (c := ((i + 1 : Nat) : Int)) h5 rfl (by omega)) ?_
      refine WL.p h Val.as ?_
      refine WL.nil ?_
      refine ⟨m - 1, by omega, i + 1, by omega, h, ?_, h0, h1, rfl⟩
      rw [List.take_succ_eq_append_getElem hlt, List.take_succ_eq_append_getElem (by omega), heq]
      rw [List.getElem?_eq_getElem hlt] at ha
      rw [List.getElem?_eq_getElem (by omega)] at hb
      rw [Option.some.inj ha, Option.some.inj hb, hab]
    · refine W.condT (show Value.bool (decide (_ ≠ _)) = _ by simp [hab]) ?_
      refine W.seq (W.region rfl ?_)
      refine WL.p h Val.as ?_
      refine WL.nil ?_
      refine W.ret ?_
      have hne : es ≠ fs := by intro e; subst e; rw [ha] at hb; exact hab (Option.some.inj hb)
      exact fin1 (v := .bool false) rfl rfl ⟨by simp [hne], h.toExt⟩
  · refine WL.nil ?_
    refine W.condF rfl ?_
    refine W.exit ?_
    refine W.seq (W.region rfl ?_)
    refine WL.p h Val.as ?_
    refine WL.nil ?_
    refine W.ret ?_
    refine fin1 (v := .bool true) rfl rfl ⟨?_, h.toExt⟩
    rw [List.take_of_length_le (by omega), List.take_of_length_le (by omega)] at heq
    simp [heq]


end Go.Proofs.YtmiihhbgfijcmaaGreat.K


