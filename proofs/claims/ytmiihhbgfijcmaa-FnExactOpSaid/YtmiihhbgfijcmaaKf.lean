/- The calculus, sixth part: literals of two elements, calls of function values, tests against nil. -/
import Derived.Test.YtmiihhbgfijcmaaKe
import Derived.WideLaws
namespace Go.Proofs.Ytmiihhbgfijcmaa.K
open Go Go.RowKit
set_option linter.unusedVariables false
set_option linter.unusedSimpArgs false
section
variable {P : Program} {R : Regs} {w0 : World} {F0 F : Fz} {L : List Ch} {d : Option Nat} {ty : TypeId} {pos : String} {af : Array Edge} {g : Option (Nat × Bool)}
variable {n : Nat} {ops : Array Oper} {Q : Post} {w : World} {rest : List Oper}
theorem cells1 {v : Value} (h : v.oneCell' = true) : v.cells = #[v] := by cases v <;> first | rfl | simp [Value.oneCell'] at h
/-- A composite literal of two one-cell elements. -/
theorem WL.bs2 {T e bytes : Nat} {z u v : Value} {x y : Operand} (h : Hp w0 F0 F L w) (ht : P.underlying T = some (.slice e)) (hT : TI P e z 1 bytes) (hx : ev R x = u) (hy : ev R y = v) (hu : u.oneCell' = true) (hv : v.oneCell' = true)
    (k : ∀ b w', Hp w0 F0 F (L ++ [.box b [u, v] e]) w' → WL P n ops Q rest (updO R d (.slice (some ⟨b, 0, none⟩) 2 2)) w') (hw : wantB ops R g = true := by rfl) : WL P n ops Q (⟨d, .buildSlice T 2 #[(0, x), (1, y)], ty, pos, af, g⟩ :: rest) R w := by
  refine WL.val (v := .slice (some ⟨w.heap.size, 0, none⟩) 2 2) (w' := w.alloc (.cells #[u, v] e)) hw ?_ (k _ _ (h.alloc [u, v] e))
  have hz : z.cells.size = 1 := hT.zs
  have hr : (Array.range (2 * 1)).map (fun i => z.cells[i % z.cells.size]!) = #[z.cells[0]!, z.cells[0]!] := by
    have : Array.range (2 * 1) = #[0, 1] := rfl
    rw [this]
    simp [hz]
  simp only [execOp, Instr.buildSlice, Sem.run_bind, run_underlying ht, Result.andThen_ok, hT.sizeOf w, hT.zero w, Sem.run_pure, List.map_toArray, List.map_cons, List.map_nil, hx, hy, hr]
  have h24 : ¬ (2 * 1 > 2 ^ 24) := by omega
  have h1 : ¬ (2 * 1 = 0) := by omega
  simp only [if_neg h24, if_neg h1, Sem.run_pure, Sem.run_bind, Result.andThen_ok, hT.zero w, hr]
  simp [Instr.fill, cells1 hu, cells1 hv, newRow]
/-- A call of a function value. -/
theorem WL.callV {f : FuncId} {x : Operand} {xs : Array Operand} {ats : Array TypeId} {args : List Value} (hc : CF P f) (hx : ev R x = .func (.func f) #[] #[]) (ha : xs.toList.map (ev R) = args)
    (h : Calls P f args.toArray w fun e w'' => ∃ v, e = .returned v ∧ WL P n ops Q rest (updO R d v) w'') (hw : wantB ops R g = true := by rfl) : WL P n ops Q (⟨d, .call { callee := .value x, args := xs, argTypes := ats }, ty, pos, af, g⟩ :: rest) R w := by
  obtain ⟨fn, h1, h2, h3⟩ := hc.ex
  subst ha
  rw [List.map_toArray.symm, Array.toArray_toList] at h
  refine WL.enter hw ?_ h
  simp only [execOp, resolve, Deferred.ofValue, hx, invoke, callFunc, Sem.run_bind, Sem.run_pure, Result.andThen_ok, run_program, h1, h2, h3, Bool.false_eq_true, if_false, Array.empty_append, Array.append_empty]
/-- '== nil' of an interface value. -/
def isNilB : Value → Bool
  | .nilIface => true
  | _ => false
theorem Val.eqNil {t t' : TypeId} {x : Operand} {v : Value} (ht : P.underlying t = some (.interface (P.methodsAt t))) (hx : ev R x = v) (hv : v = .nilIface ∨ ∃ T u, v = .iface T u) : Val P (Hp w0 F0 F L) R ⟨d, .binOp .eql t x (.const .nilIface) t', ty, pos, af, g⟩ (.bool (isNilB v)) := fun w _ => by
  have hc : ev R (.const .nilIface) = .nilIface := rfl
  rcases hv with rfl | ⟨T, u, rfl⟩
  · have e : eqGuard .eql t x (.const .nilIface) .nilIface .nilIface = pure () := by cases x <;> rfl
    simp only [execOp, hx, hc, e, Sem.run_bind, Sem.run_pure, Result.andThen_ok, run_eql_nil_nil w t ht, isNilB]
  · simp only [execOp, hx, hc, eqGuard_at_iface, Sem.run_bind, Sem.run_pure, Result.andThen_ok, run_eql_held_nil w t T u ht, isNilB]
end
end Go.Proofs.Ytmiihhbgfijcmaa.K
