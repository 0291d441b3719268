/- A small calculus for walking the program's code: registers as a function, one rule an operation; the heap is told in K b. -/
import Derived.WalkKit
import Derived.OrdersHeld
import Derived.Deep.LoopGhost
import Derived.KernelRfl
namespace Go.Proofs.YtmiihhbgfijcmaaGreat.K
open Go Go.RowKit
set_option linter.unusedVariables false
set_option linter.unusedSimpArgs false

/-! ### Registers -/
abbrev Regs := Nat → Value
def upd (R : Regs) (d : Nat) (v : Value) : Regs := fun i => bif Nat.beq i d then v else R i
def updO (R : Regs) : Option Nat → Value → Regs
  | some d, v => upd R d v
  | none, _ => R
def ev (R : Regs) : Operand → Value
  | .tmp t => R t
  | .const v => v
  | .global g => .pointer (some ⟨g, 0, none⟩)
  | .func f => .func (.func f) #[] #[]

structure Ok (n : Nat) (R : Regs) (a : Act) : Prop where
  defers : a.defers = []
  size : a.tmps.size = n
  get : ∀ i, a.tmps.getD i undef = R i

section
variable {n : Nat} {R : Regs} {a : Act}
theorem Ok.eval (h : Ok n R a) : a.eval = ev R := by
  funext x
  cases x <;> simp [Act.eval, ev, h.get]
theorem Ok.put (h : Ok n R a) {d : Nat} (hd : d < n) (v : Value) : Ok n (upd R d v) (a.put (some d) v) := by
  refine ⟨h.defers, by simp [Act.put, h.size], fun i => ?_⟩
  have hg := h.get i
  simp only [Act.put, upd]
  by_cases hi : i = d
  · subst hi
    simp [Array.getD, h.size, hd]
  · have hb : Nat.beq i d = false := by cases hq : Nat.beq i d with | false => rfl | true => exact absurd (Nat.eq_of_beq_eq_true hq) hi
    rw [hb]
    simp only [cond_false]
    rw [← hg]
    simp only [Array.getD_eq_getD_getElem?, Array.getElem?_setIfInBounds]
    rw [if_neg (fun e => hi e.symm)]
theorem Ok.putO (h : Ok n R a) {d : Option Nat} (hd : (match d with | some d => Nat.blt d n | none => true) = true) (v : Value) : Ok n (updO R d v) (a.put d v) := by
  cases d with
  | none => exact h
  | some d => exact h.put (by simpa [Nat.blt_eq] using hd) v
end

/-- What a guard says, read off the registers. -/
def wantB (ops : Array Oper) (R : Regs) : Option (Nat × Bool) → Bool
  | none => true
  | some (j, t) => match ops[j]? with
    | some o => match o.dst with
      | some d => match R d with
        | .bool b => b == t
        | _ => false
      | none => false
    | none => false

theorem wanted_eq {n : Nat} {R : Regs} {a : Act} (h : Ok n R a) (ops : Array Oper) (o : Oper) : Region.wanted o (yielded ops a.tmps) = wantB ops R o.guard := by
  unfold Region.wanted wantB
  cases hg : o.guard with
  | none => rfl
  | some x =>
    obtain ⟨j, t⟩ := x
    simp only [yielded]
    cases hj : ops[j]? with
    | none => simp
    | some oj =>
      cases hd : oj.dst with
      | none => simp [hd]
      | some d =>
        have hR := h.get d
        simp only [Option.bind_some, hd]
        by_cases hlt : d < a.tmps.size
        · simp only [Array.getD, hlt, dif_pos] at hR
          rw [← hR]
          have : a.tmps[d]? = some a.tmps[d] := by simp [hlt]
          rw [this]
          simp only [Array.getInternal_eq_getElem]
          cases a.tmps[d] <;> simp
        · have : a.tmps[d]? = none := Array.getElem?_eq_none (Nat.le_of_not_lt hlt)
          rw [this]
          simp only [Array.getD, hlt, dif_neg, not_false_eq_true] at hR
          rw [← hR]
          simp [undef]

/-! ### Code -/
def Post := Exit → Regs → World → Prop
def lift (n : Nat) (Q : Post) : Exit → Act → World → Prop := fun e a w => ∃ R, Ok n R a ∧ Q e R w
def W (P : Program) (n : Nat) (c : Code) (Q : Post) (R : Regs) (w : World) : Prop := ∀ a, Ok n R a → c.wp P (lift n Q) a w
def thn (K : Regs → World → Prop) (Q : Post) : Post
  | .normal, R, w => K R w
  | e, R, w => Q e R w
def blk (id : Nat) (Q : Post) : Post
  | .exit id', R, w => bif Nat.beq id' id then Q .normal R w else Q (.exit id') R w
  | e, R, w => Q e R w

section
variable {P : Program} {n : Nat} {Q : Post} {R : Regs} {w : World}
theorem W.seq {x y : Code} (h : W P n x (thn (W P n y Q) Q) R w) : W P n (.seq x y) Q R w := fun a ha =>
  wp_seq (wp_mono (h a ha) fun e a' w' ⟨R', h1, h2⟩ => by cases e <;> first | exact h2 a' h1 | exact ⟨R', h1, h2⟩)
theorem W.cut {x y : Code} (J : Regs → World → Prop) (h : W P n x (thn J Q) R w) (k : ∀ R w, J R w → W P n y Q R w) : W P n (.seq x y) Q R w := fun a ha =>
  wp_seq (wp_mono (h a ha) fun e a' w' ⟨R', h1, h2⟩ => by cases e <;> first | exact k R' w' h2 a' h1 | exact ⟨R', h1, h2⟩)
theorem W.mono {c : Code} {Q' : Post} (h : W P n c Q' R w) (hq : ∀ e R w, Q' e R w → Q e R w) : W P n c Q R w := fun a ha =>
  wp_mono (h a ha) fun e a' w' ⟨R', h1, h2⟩ => ⟨R', h1, hq _ _ _ h2⟩
theorem W.skip (h : Q .normal R w) : W P n .skip Q R w := fun a ha => wp_skip ⟨R, ha, h⟩
theorem W.label {l : Nat} (h : Q .normal R w) : W P n (.label l) Q R w := fun a ha => wp_label ⟨R, ha, h⟩
theorem W.ret (h : Q .ret R w) : W P n .ret Q R w := fun a ha => wp_ret ⟨R, ha, h⟩
theorem W.exit {id : Nat} (h : Q (.exit id) R w) : W P n (.exit id) Q R w := fun a ha => wp_exit ⟨R, ha, h⟩
theorem W.block {id : Nat} {c : Code} (h : W P n c (blk id Q) R w) : W P n (.block id c) Q R w := fun a ha =>
  wp_block (wp_mono (h a ha) fun e a' w' hq => by
    cases e with
    | exit jd =>
      obtain ⟨R', h1, h2⟩ := hq
      simp only [Exit.inBlock, blk] at *
      by_cases e : jd = id
      · subst e; rw [Nat.beq_refl] at h2; rw [if_pos rfl]; exact ⟨R', h1, h2⟩
      · have hb : Nat.beq jd id = false := by cases hq : Nat.beq jd id with | false => rfl | true => exact absurd (Nat.eq_of_beq_eq_true hq) e
        rw [hb] at h2; rw [if_neg e]; exact ⟨R', h1, h2⟩
    | normal => exact hq
    | goto l => exact hq
    | ret => exact hq
    | panic c => exact hq
    | outgrown => exact hq)
theorem W.cond {c : Operand} {x y : Code} {t : Bool} (hc : ev R c = .bool t) (ht : t = true → W P n x Q R w) (hf : t = false → W P n y Q R w) : W P n (.cond c x y) Q R w := fun a ha =>
  wp_cond_split (t := t) (by rw [ha.eval]; exact hc) (fun e => ht e a ha) (fun e => hf e a ha)
theorem W.condT {c : Operand} {x y : Code} (hc : ev R c = .bool true) (h : W P n x Q R w) : W P n (.cond c x y) Q R w := fun a ha => wp_cond_true (by rw [ha.eval]; exact hc) (h a ha)
theorem W.condF {c : Operand} {x y : Code} (hc : ev R c = .bool false) (h : W P n y Q R w) : W P n (.cond c x y) Q R w := fun a ha => wp_cond_false (by rw [ha.eval]; exact hc) (h a ha)
/-- A loop: I holds at every round's head, with a number that each round lowers. -/
theorem W.loop {c : Code} (I : Nat → Regs → World → Prop) (m : Nat) (h0 : I m R w)
    (round : ∀ m R w, I m R w → W P n c (thn (fun R w => ∃ m', m' < m ∧ I m' R w) Q) R w) : W P n (.loop c) Q R w := fun a ha => by
  refine wp_loop_ghost (fun m a w => ∃ R, Ok n R a ∧ I m R w) m ⟨R, ha, h0⟩ fun m a w ⟨R, ha, hI⟩ => ?_
  refine wp_mono (round m R w hI a ha) fun e a' w' ⟨R', h1, h2⟩ => ?_
  cases e <;> first | exact ⟨R', h1, h2⟩ | (obtain ⟨m', hlt, hI'⟩ := h2; exact ⟨m', hlt, R', h1, hI'⟩)
end

/-! ### A region without a draw -/
def dsts (n : Nat) (l : List Oper) : Bool := l.all fun o => match o.dst with | some d => Nat.blt d n | none => true
def WL (P : Program) (n : Nat) (ops : Array Oper) (Q : Post) (l : List Oper) (R : Regs) (w : World) : Prop := dsts n l = true → ∀ a, Ok n R a → wpList P ops (lift n Q) l a w

section
variable {P : Program} {n : Nat} {ops : Array Oper} {Q : Post} {R : Regs} {w : World} {o : Oper} {rest : List Oper}
theorem W.region {id : Nat} {l : List Oper} (hd : dsts n l = true) (h : WL P n l.toArray Q l R w) : W P n (.region id l.toArray false) Q R w := fun a ha => wp_region_lit (h hd a ha)
theorem WL.nil (h : Q .normal R w) : WL P n ops Q [] R w := fun _ a ha => wpList_nil ⟨R, ha, h⟩
theorem dsts_head (h : dsts n (o :: rest) = true) : (match o.dst with | some d => Nat.blt d n | none => true) = true := by
  simp only [dsts, List.all_cons, Bool.and_eq_true] at h; exact h.1
theorem dsts_tail (h : dsts n (o :: rest) = true) : dsts n rest = true := by
  simp only [dsts, List.all_cons, Bool.and_eq_true] at h; exact h.2
theorem WL.val {v : Value} {w' : World} (hw : wantB ops R o.guard = true) (run : (execOp (ev R) o).run P w = .ok (.value v) w') (h : WL P n ops Q rest (updO R o.dst v) w') : WL P n ops Q (o :: rest) R w := fun hd a ha => by
  unfold wpList
  rw [if_pos (by rw [wanted_eq ha]; exact hw)]
  refine .inl ?_
  unfold Oper.wp
  rw [ha.eval, run]
  exact h (dsts_tail hd) _ (ha.putO (dsts_head hd) v)
theorem WL.unit {w' : World} (hw : wantB ops R o.guard = true) (run : (execOp (ev R) o).run P w = .ok .skip w') (h : WL P n ops Q rest (updO R o.dst undef) w') : WL P n ops Q (o :: rest) R w := fun hd a ha => by
  unfold wpList
  rw [if_pos (by rw [wanted_eq ha]; exact hw)]
  refine .inl ?_
  unfold Oper.wp
  rw [ha.eval, run]
  exact h (dsts_tail hd) _ (ha.putO (dsts_head hd) undef)
theorem WL.enter {f : FuncId} {args : Array Value} {w' : World} (hw : wantB ops R o.guard = true) (run : (execOp (ev R) o).run P w = .ok (.enter f args) w')
    (h : Calls P f args w' fun e w'' => ∃ v, e = .returned v ∧ WL P n ops Q rest (updO R o.dst v) w'') : WL P n ops Q (o :: rest) R w := fun hd a ha => by
  unfold wpList
  rw [if_pos (by rw [wanted_eq ha]; exact hw)]
  refine .inl ?_
  unfold Oper.wp
  rw [ha.eval, run]
  refine h.mono ?_
  rintro e w'' ⟨v, rfl, h'⟩
  exact h' (dsts_tail hd) _ (ha.putO (dsts_head hd) v)
/-- A guard says no. -/
theorem WL.no (hw : wantB ops R o.guard = false) (h : WL P n ops Q rest (updO R o.dst undef) w) : WL P n ops Q (o :: rest) R w := fun hd a ha => by
  unfold wpList
  rw [if_neg (by rw [wanted_eq ha, hw]; simp)]
  exact h (dsts_tail hd) _ (ha.putO (dsts_head hd) undef)
/-- By a law on lists of operations of the kit's own. -/
theorem WL.law (h : ∀ a, Ok n R a → (∀ v w', WL P n ops Q rest (updO R o.dst v) w' → wpList P ops (lift n Q) rest (a.put o.dst v) w') → wpList P ops (lift n Q) (o :: rest) a w) : WL P n ops Q (o :: rest) R w := fun hd a ha =>
  h a ha fun v w' hv => hv (dsts_tail hd) _ (ha.putO (dsts_head hd) v)
end

/-! ### A call of a function -/
def ini (args : Array Value) : Regs := fun i => args.getD i undef
/-- What the results come to. -/
def fin (P : Program) (n : Nat) (fn : Func) (K : Ending → World → Prop) : Post
  | .normal, R, w | .ret, R, w => ∃ v, (∀ a, Ok n R a → (results fn a.tmps).run P w = .ok v w) ∧ K (.returned v) w
  | _, _, _ => False
theorem calls {P : Program} {f : FuncId} {fn : Func} {c : Code} {args : Array Value} {w : World} {K : Ending → World → Prop} (n : Nat) (hf : P.funcs[f]? = some fn) (hb : fn.body = some c) (hn : fn.ntmps = n)
    (hs : Nat.ble args.size n = true) (h : W P n c (fin P n fn K) (ini args) w) : Calls P f args w K := by
  refine calls_of_wp hf hb (wp_mono (h _ ?_) ?_)
  · have hs' : args.size ≤ n := by simpa [Nat.ble_eq] using hs
    refine ⟨rfl, by simp [hn]; omega, fun i => ?_⟩
    simp only [ini, Array.getD_eq_getD_getElem?]
    rw [Array.getElem?_append]
    split
    · rfl
    · rename_i hi
      rw [Array.getElem?_eq_none (by omega : args.size ≤ i)]
      simp only [Array.getElem?_replicate]
      split <;> rfl
  · rintro e a' w' ⟨R, hR, hq⟩
    cases e <;> try exact hq.elim
    · obtain ⟨v, hv, hK⟩ := hq
      exact ⟨hR.defers, v, hv a' hR, hK⟩
    · obtain ⟨v, hv, hK⟩ := hq
      exact ⟨hR.defers, v, hv a' hR, hK⟩

section
variable {P : Program} {n : Nat} {fn : Func} {K : Ending → World → Prop} {R : Regs} {w : World}
theorem fin0 (hr : fn.results = #[]) (h : K (.returned (.tuple #[])) w) : fin P n fn K .normal R w := ⟨_, fun a ha => by simp [results, hr], h⟩
theorem fin1 {t : Nat} {v : Value} (hr : fn.results = #[.tmp t]) (hv : R t = v) (h : K (.returned v) w) : fin P n fn K .ret R w := ⟨v, fun a ha => by simp [results, hr, ha.get, hv], h⟩
theorem fin2 {t u : Nat} {v x : Value} (hr : fn.results = #[.tmp t, .tmp u]) (hv : R t = v) (hx : R u = x) (h : K (.returned (.tuple #[v, x])) w) : fin P n fn K .ret R w :=
  ⟨_, fun a ha => by simp [results, hr, ha.get, hv, hx], h⟩
theorem finC {t T : Nat} {p : Addr} {v : Value} (hr : fn.results = #[.cell t T]) (hp : R t = .pointer (some p)) (hv : (loadVar T p).run P w = .ok v w) (h : K (.returned v) w) : fin P n fn K .ret R w :=
  ⟨v, fun a ha => by simp [results, hr, ha.get, hp, asAddr, hv], h⟩
theorem fin2C {t T u : Nat} {p : Addr} {v x : Value} (hr : fn.results = #[.cell t T, .tmp u]) (hp : R t = .pointer (some p)) (hv : (loadVar T p).run P w = .ok v w) (hx : R u = x) (h : K (.returned (.tuple #[v, x])) w) : fin P n fn K .ret R w :=
  ⟨_, fun a ha => by simp [results, hr, ha.get, hp, asAddr, hv, hx], h⟩
end

theorem fin_panic {P : Program} {n : Nat} {fn : Func} {K : Ending → World → Prop} {R : Regs} {w : World} {c} (h : fin P n fn K (.panic c) R w) : False := h
attribute [irreducible] fin

/-! ### Operations that only look: one value in every world that meets S -/
def Val (P : Program) (S : World → Prop) (R : Regs) (o : Oper) (v : Value) : Prop := ∀ w, S w → (execOp (ev R) o).run P w = .ok (.value v) w

section
variable {P : Program} {n : Nat} {ops : Array Oper} {Q : Post} {R : Regs} {w : World} {o : Oper} {rest : List Oper} {S : World → Prop}
theorem WL.p {v : Value} (hS : S w) (hv : Val P S R o v) (h : WL P n ops Q rest (updO R o.dst v) w) (hw : wantB ops R o.guard = true := by rfl) : WL P n ops Q (o :: rest) R w := WL.val hw (hv w hS) h
variable {d : Option Nat} {ty : TypeId} {pos : String} {af : Array Edge} {g : Option (Nat × Bool)}
theorem Val.mv {x : Operand} : Val P S R ⟨d, .move x, ty, pos, af, g⟩ (ev R x) := fun w _ => rfl
theorem Val.as {x : Operand} : Val P S R ⟨d, .assign x, ty, pos, af, g⟩ (ev R x) := fun w _ => rfl
theorem Val.pick {c a b : Operand} {t : Bool} (hc : ev R c = .bool t) : Val P S R ⟨d, .pick c a b, ty, pos, af, g⟩ (bif t then ev R a else ev R b) := fun w _ => by
  simp [execOp, asBool, hc]
theorem Val.ext {t : Operand} {i : Nat} {vs : Array Value} {v : Value} (ht : ev R t = .tuple vs) (hv : vs[i]? = some v) : Val P S R ⟨d, .extract t i, ty, pos, af, g⟩ v := fun w _ => by
  simp [execOp, Instr.extract, ht, hv]
theorem Val.bin {op : BinOp} {t t' : TypeId} {x y : Operand} {k : IntKind} {a b : Int} {v : Value} (hx : ev R x = .int k a) (hy : ev R y = .int k b) (hv : ∀ w, (binOp op t (.int k a) (.int k b)).run P w = .ok v w) :
    Val P S R ⟨d, .binOp op t x y t', ty, pos, af, g⟩ v := fun w _ => by
  simp [execOp, hx, hy, eqGuard_at_int, hv w]
theorem Val.lt {t t' : TypeId} {x y : Operand} {k : IntKind} {a b : Int} (hx : ev R x = .int k a) (hy : ev R y = .int k b) : Val P S R ⟨d, .binOp .lss t x y t', ty, pos, af, g⟩ (.bool (decide (a < b))) := Val.bin hx hy fun w => by simp [binOp_lss]
theorem Val.le {t t' : TypeId} {x y : Operand} {k : IntKind} {a b : Int} (hx : ev R x = .int k a) (hy : ev R y = .int k b) : Val P S R ⟨d, .binOp .leq t x y t', ty, pos, af, g⟩ (.bool (decide (a ≤ b))) := Val.bin hx hy fun w => by simp [binOp_leq]
theorem Val.gt {t t' : TypeId} {x y : Operand} {k : IntKind} {a b : Int} (hx : ev R x = .int k a) (hy : ev R y = .int k b) : Val P S R ⟨d, .binOp .gtr t x y t', ty, pos, af, g⟩ (.bool (decide (b < a))) := Val.bin hx hy fun w => by simp [binOp_gtr]
theorem Val.ge {t t' : TypeId} {x y : Operand} {k : IntKind} {a b : Int} (hx : ev R x = .int k a) (hy : ev R y = .int k b) : Val P S R ⟨d, .binOp .geq t x y t', ty, pos, af, g⟩ (.bool (decide (b ≤ a))) := Val.bin hx hy fun w => by simp [binOp_geq]
theorem Val.eq {t t' : TypeId} {x y : Operand} {k : IntKind} {a b : Int} (hx : ev R x = .int k a) (hy : ev R y = .int k b) : Val P S R ⟨d, .binOp .eql t x y t', ty, pos, af, g⟩ (.bool (decide (a = b))) := Val.bin hx hy fun w => by simp [binOp_eql]; rfl
theorem Val.ne {t t' : TypeId} {x y : Operand} {k : IntKind} {a b : Int} (hx : ev R x = .int k a) (hy : ev R y = .int k b) : Val P S R ⟨d, .binOp .neq t x y t', ty, pos, af, g⟩ (.bool (decide (a ≠ b))) := Val.bin hx hy fun w => by
  simp [binOp_neq, bne]
  by_cases h : a = b <;> simp [h]
theorem Val.add {t t' : TypeId} {x y : Operand} {k : IntKind} {a b : Int} (hx : ev R x = .int k a) (hy : ev R y = .int k b) : Val P S R ⟨d, .binOp .add t x y t', ty, pos, af, g⟩ (.int k (k.wrap (a + b))) := Val.bin hx hy fun w => by simp [binOp_add, Op.intArith]
theorem Val.sub {t t' : TypeId} {x y : Operand} {k : IntKind} {a b : Int} (hx : ev R x = .int k a) (hy : ev R y = .int k b) : Val P S R ⟨d, .binOp .sub t x y t', ty, pos, af, g⟩ (.int k (k.wrap (a - b))) := Val.bin hx hy fun w => by simp [binOp_sub, Op.intArith]
theorem Val.mul {t t' : TypeId} {x y : Operand} {k : IntKind} {a b : Int} (hx : ev R x = .int k a) (hy : ev R y = .int k b) : Val P S R ⟨d, .binOp .mul t x y t', ty, pos, af, g⟩ (.int k (k.wrap (a * b))) := Val.bin hx hy fun w => by simp [binOp_mul, Op.intArith]
theorem Val.quo {t t' : TypeId} {x y : Operand} {k : IntKind} {a b : Int} (hx : ev R x = .int k a) (hy : ev R y = .int k b) (hb : b ≠ 0) : Val P S R ⟨d, .binOp .quo t x y t', ty, pos, af, g⟩ (.int k (k.wrap (a.tdiv b))) := Val.bin hx hy fun w => by simp [binOp_quo, Op.intDiv, hb]
theorem Val.rem {t t' : TypeId} {x y : Operand} {k : IntKind} {a b : Int} (hx : ev R x = .int k a) (hy : ev R y = .int k b) (hb : b ≠ 0) : Val P S R ⟨d, .binOp .rem t x y t', ty, pos, af, g⟩ (.int k (a.tmod b)) := Val.bin hx hy fun w => by simp [binOp_rem, Op.intDiv, hb]
theorem wrap_in {a : Int} (h : -9223372036854775808 ≤ a ∧ a ≤ 9223372036854775807) : IntKind.i64.wrap a = a := IntWalk.i64_in _ h
/-- Sums within the kind's range. -/
theorem Val.addi {t t' : TypeId} {x y : Operand} {a b c : Int} (hx : ev R x = .int .i64 a) (hy : ev R y = .int .i64 b) (hc : c = a + b ∧ -9223372036854775808 ≤ a + b ∧ a + b ≤ 9223372036854775807) : Val P S R ⟨d, .binOp .add t x y t', ty, pos, af, g⟩ (.int .i64 c) := by
  have h := Val.add (P := P) (S := S) (d := d) (ty := ty) (pos := pos) (af := af) (g := g) (t := t) (t' := t') hx hy
  rw [wrap_in hc.2, ← hc.1] at h; exact h
theorem Val.subi {t t' : TypeId} {x y : Operand} {a b c : Int} (hx : ev R x = .int .i64 a) (hy : ev R y = .int .i64 b) (hc : c = a - b ∧ -9223372036854775808 ≤ a - b ∧ a - b ≤ 9223372036854775807) : Val P S R ⟨d, .binOp .sub t x y t', ty, pos, af, g⟩ (.int .i64 c) := by
  have h := Val.sub (P := P) (S := S) (d := d) (ty := ty) (pos := pos) (af := af) (g := g) (t := t) (t' := t') hx hy
  rw [wrap_in hc.2, ← hc.1] at h; exact h
theorem Val.not {t : TypeId} {x : Operand} {b : Bool} (hx : ev R x = .bool b) : Val P S R ⟨d, .unOp .not t x, ty, pos, af, g⟩ (.bool (!b)) := fun w _ => by simp [execOp, Op.unary, hx]
theorem Val.neg {t : TypeId} {x : Operand} {k : IntKind} {b : Int} (hx : ev R x = .int k b) : Val P S R ⟨d, .unOp .neg t x, ty, pos, af, g⟩ (.int k (k.wrap (-b))) := fun w _ => by simp [execOp, Op.unary, hx, Op.intArith]
theorem Val.mkI {t : TypeId} {x : Operand} {v : Value} (ht : P.concrete t = true) (hx : ev R x = v) : Val P S R ⟨d, .makeInterface t x, ty, pos, af, g⟩ (.iface t v) := fun w _ => by simp [execOp, run_makeInterface w t _ ht, hx]
end
end Go.Proofs.YtmiihhbgfijcmaaGreat.K

