/- Put together from Kf, Kg. -/
import Derived.Test.YtmiihhbgfijcmaaGreatKe
import Derived.WideLaws
import Derived.Laws.BytesArg
/- The calculus, sixth part: literals of two elements, calls of function values, tests against nil. -/
namespace Go.Proofs.YtmiihhbgfijcmaaGreat.K
open Go Go.RowKit
set_option linter.unusedVariables false
set_option linter.unusedSimpArgs false
section
variable {P : Program} {R : Regs} {w0 : World} {F0 F : Fz} {L : List Ch} {d : Option Nat} {ty : TypeId} {pos : String} {af : Array Edge} {g : Option (Nat × Bool)}
variable {n : Nat} {ops : Array Oper} {Q : Post} {w : World} {rest : List Oper}
theorem cells1 {v : Value} (h : v.oneCell' = true) : v.cells = #[v] := by cases v <;> first | rfl | simp [Value.oneCell'] at h
/-- A composite literal of two one-cell elements. -/
theorem WL.bs2 {T e bytes : Nat} {z u v : Value} {x y : Operand} (h : Hp w0 F0 F L w) (ht : P.underlying T = some (.slice e)) (hT : TI P e z 1 bytes) (hx : ev R x = u) (hy : ev R y = v) (hu : u.oneCell' = true) (hv : v.oneCell' = true)
    (k : ∀ b w', Hp w0 F0 F (L ++ [.box b [u, v] e]) w' → WL P n ops Q rest (updO R d (.slice (some ⟨b, 0, none⟩) 2 2)) w') (hw : wantB ops R g = true := by rfl) : WL P n ops Q (⟨d, .buildSlice T 2 #[(0, x), (1, y)], ty, pos, af, g⟩ :: rest) R w := by
  refine WL.val (v := .slice (some ⟨w.heap.size, 0, none⟩) 2 2) (w' := w.alloc (.cells #[u, v] e)) hw ?_ (k _ _ (h.alloc [u, v] e))
  have hz : z.cells.size = 1 := hT.zs
  have hr : (Array.range (2 * 1)).map (fun i => z.cells[i % z.cells.size]!) = #[z.cells[0]!, z.cells[0]!] := by
    have : Array.range (2 * 1) = #[0, 1] := rfl
    rw [this]
    simp [hz]
  simp only [execOp, Instr.buildSlice, Sem.run_bind, run_underlying ht, Result.andThen_ok, hT.sizeOf w, hT.zero w, Sem.run_pure, List.map_toArray, List.map_cons, List.map_nil, hx, hy, hr]
  have h24 : ¬ (2 * 1 > 2 ^ 24) := by omega
  have h1 : ¬ (2 * 1 = 0) := by omega
  simp only [if_neg h24, if_neg h1, Sem.run_pure, Sem.run_bind, Result.andThen_ok, hT.zero w, hr]
  simp [Instr.fill, cells1 hu, cells1 hv, newRow]
/-- A call of a function value. -/
theorem WL.callV {f : FuncId} {x : Operand} {xs : Array Operand} {ats : Array TypeId} {args : List Value} (hc : CF P f) (hx : ev R x = .func (.func f) #[] #[]) (ha : xs.toList.map (ev R) = args)
    (h : Calls P f args.toArray w fun e w'' => ∃ v, e = .returned v ∧ WL P n ops Q rest (updO R d v) w'') (hw : wantB ops R g = true := by rfl) : WL P n ops Q (⟨d, .call { callee := .value x, args := xs, argTypes := ats }, ty, pos, af, g⟩ :: rest) R w := by
  obtain ⟨fn, h1, h2, h3⟩ := hc.ex
  subst ha
  rw [List.map_toArray.symm, Array.toArray_toList] at h
  refine WL.enter hw ?_ h
  simp only [execOp, resolve, Deferred.ofValue, hx, invoke, callFunc, Sem.run_bind, Sem.run_pure, Result.andThen_ok, run_program, h1, h2, h3, Bool.false_eq_true, if_false, Array.empty_append, Array.append_empty]
/-- '== nil' of an interface value. -/
def isNilB : Value → Bool
  | .nilIface => true
  | _ => false
theorem Val.eqNil {t t' : TypeId} {x : Operand} {v : Value} (ht : P.underlying t = some (.interface (P.methodsAt t))) (hx : ev R x = v) (hv : v = .nilIface ∨ ∃ T u, v = .iface T u) : Val P (Hp w0 F0 F L) R ⟨d, .binOp .eql t x (.const .nilIface) t', ty, pos, af, g⟩ (.bool (isNilB v)) := fun w _ => by
  have hc : ev R (.const .nilIface) = .nilIface := rfl
  rcases hv with rfl | ⟨T, u, rfl⟩
  · have e : eqGuard .eql t x (.const .nilIface) .nilIface .nilIface = pure () := by cases x <;> rfl
    simp only [execOp, hx, hc, e, Sem.run_bind, Sem.run_pure, Result.andThen_ok, run_eql_nil_nil w t ht, isNilB]
  · simp only [execOp, hx, hc, eqGuard_at_iface, Sem.run_bind, Sem.run_pure, Result.andThen_ok, run_eql_held_nil w t T u ht, isNilB]
end
end Go.Proofs.YtmiihhbgfijcmaaGreat.K


/- The calculus, seventh part: calls of closures; chunks lent to the outside while a callee works on the others; conversions. -/
namespace Go.Proofs.YtmiihhbgfijcmaaGreat.K
open Go Go.RowKit
set_option linter.unusedVariables false
set_option linter.unusedSimpArgs false
section
variable {P : Program} {R : Regs} {w0 : World} {F0 F : Fz} {L : List Ch} {d : Option Nat} {ty : TypeId} {pos : String} {af : Array Edge} {g : Option (Nat × Bool)}
variable {n : Nat} {ops : Array Oper} {Q : Post} {w : World} {rest : List Oper}
/-- A call of a closure. -/
theorem WL.callC {f : FuncId} {x : Operand} {xs : Array Operand} {ats : Array TypeId} {args caps : List Value} (hc : CF P f) (hx : ev R x = .func (.func f) #[] caps.toArray) (ha : xs.toList.map (ev R) = args)
    (h : Calls P f (args ++ caps).toArray w fun e w'' => ∃ v, e = .returned v ∧ WL P n ops Q rest (updO R d v) w'') (hw : wantB ops R g = true := by rfl) : WL P n ops Q (⟨d, .call { callee := .value x, args := xs, argTypes := ats }, ty, pos, af, g⟩ :: rest) R w := by
  obtain ⟨fn, h1, h2, h3⟩ := hc.ex
  subst ha
  have e : (xs.toList.map (ev R) ++ caps).toArray = xs.map (ev R) ++ caps.toArray := by
    apply Array.ext'; simp
  rw [e] at h
  refine WL.enter hw ?_ h
  simp only [execOp, resolve, Deferred.ofValue, hx, invoke, callFunc, Sem.run_bind, Sem.run_pure, Result.andThen_ok, run_program, h1, h2, h3, Bool.false_eq_true, if_false, Array.empty_append, Array.append_empty]
theorem Val.cvI {src dst : TypeId} {x : Operand} {k k' : IntKind} {a : Int} (hs : (P.underlying src).isSome = true) (hd : P.underlying dst = some (.int (P.intKind dst))) (hk : P.intKind dst = k') (hx : ev R x = .int k a) : Val P (Hp w0 F0 F L) R ⟨d, .convert src dst x, ty, pos, af, g⟩ (.int k' (k'.wrap a)) := fun w _ => by
  simp only [execOp, hx, Sem.run_bind, run_convert_int w src dst k a hs hd, Result.andThen_ok, Sem.run_pure, hk]
/-- Bytes of a box, as a string. -/
theorem Val.cvB (i : Nat) {src dst e b c : Nat} {T : TypeId} {x : Operand} {a : Int} (hs : P.underlying src = some (.slice e)) (he : P.underlying e = some (.int .u8)) (hd : P.underlying dst = some .string) (hi : L[i]? = some (.box b [.int .u8 a] T)) (hx : ev R x = .slice (some ⟨b, 0, none⟩) 1 c) : Val P (Hp w0 F0 F L) R ⟨d, .convert src dst x, ty, pos, af, g⟩ (.string (strOfNums [a])) := fun w h => by
  have hr := run_convert_bytes_arg (P := P) w src e hs he b 0 1 c [a] rfl (fun j hj => by
    obtain rfl : j = 0 := by omega
    exact box_cell h hi rfl) dst hd
  simp only [execOp, hx, Sem.run_bind, hr, Result.andThen_ok, Sem.run_pure]
theorem Val.sAdd {t t' : TypeId} {x y : Operand} {a b : ByteArray} (hx : ev R x = .string a) (hy : ev R y = .string b) (hl : a.size + b.size ≤ 9223372036854775807) : Val P (Hp w0 F0 F L) R ⟨d, .binOp .add t x y t', ty, pos, af, g⟩ (.string (a ++ b)) := fun w _ => by
  have h0 : ¬ (((a.size + b.size : Nat) : Int) > IntKind.i64.max) := by
    have : IntKind.i64.max = 9223372036854775807 := by decide
    rw [this]; omega
  have hb : binOp .add t (.string a) (.string b) = Op.stringOp .add a b := rfl
  simp only [execOp, hx, hy, eqGuard_at_string, hb, Op.stringOp, if_neg h0, Sem.run_bind, Sem.run_pure, Result.andThen_ok]

theorem Val.clo {captured : Array Operand} {caps : List Value} {fn : Fn} (hc : captured.toList.map (ev R) = caps) : Val P (Hp w0 F0 F L) R ⟨d, .makeFunc fn #[] captured, ty, pos, af, g⟩ (.func fn #[] caps.toArray) := fun w _ => by
  subst hc
  have e : (captured.toList.map (ev R)).toArray = captured.map (ev R) := by apply Array.ext'; simp
  rw [e]
  simp [execOp, Instr.makeFunc]
theorem Val.muli {t t' : TypeId} {x y : Operand} {a b c : Int} (hx : ev R x = .int .i64 a) (hy : ev R y = .int .i64 b) (hc : c = a * b ∧ -9223372036854775808 ≤ a * b ∧ a * b ≤ 9223372036854775807) : Val P (Hp w0 F0 F L) R ⟨d, .binOp .mul t x y t', ty, pos, af, g⟩ (.int .i64 c) := by
  have h := Val.mul (P := P) (S := Hp w0 F0 F L) (d := d) (ty := ty) (pos := pos) (af := af) (g := g) (t := t) (t' := t') hx hy
  rw [wrap_in hc.2, ← hc.1] at h; exact h

/-- A struct that fills a box and one value more, handed back. -/
theorem finBox2 {fn : Func} {K : Ending → World → Prop} (h : Hp w0 F0 F L w) (i : Nat) {t T b u : Nat} {cs : List Value} {z v : Value} {size bytes : Nat} (hr : fn.results = #[.cell t T, .tmp u]) (hp : R t = .pointer (some ⟨b, 0, none⟩)) (hi : L[i]? = some (.box b cs T)) (hA : AG P T true) (hT : TI P T z size bytes) (hl : cs.length = size) (hu : R u = v) (k : K (.returned (.tuple #[.agg cs.toArray, v])) w) : fin P n fn K .ret R w :=
  fin2C hr hp (run_loadN hA hT hl (fun j v hj => by rw [add_plain, Nat.zero_add]; exact box_cell h hi hj)) hu k

/-! ### Lending -/
/-- What lies in B is fixed while the rest is worked on, and comes back. -/
theorem Hp.lend {A B : List Ch} (h : Hp w0 F0 F (A ++ B) w) : ∃ F1, Sub F F1 ∧ Hp w0 F0 F1 A w ∧ ∀ w' A', Hp w0 F0 F1 A' w' → Hp w0 F0 F (A' ++ B) w' := by
  classical
  have hB : ∀ (i : Nat) c, B[i]? = some c → (A ++ B)[A.length + i]? = some c := fun i c hc => by
    rw [List.getElem?_append_right (by omega), Nat.add_sub_cancel_left]; exact hc
  have hA : ∀ (i : Nat) c, A[i]? = some c → (A ++ B)[i]? = some c := fun i c hc => by
    rw [List.getElem?_append_left (List.getElem?_eq_some_iff.1 hc).1]; exact hc
  let inB : Nat → Prop := fun b => ∃ (i : Nat) (c : Ch), B[i]? = some c ∧ c.blk = some b
  refine ⟨fun b => if inB b then w.heap[b]? else F b, ?_, ?_, ?_⟩
  · intro b o hb
    by_cases hi : inB b
    · obtain ⟨i, c, hc, hcb⟩ := hi
      rw [(h.fresh _ c b (hB i c hc) hcb).2] at hb; cases hb
    · simp only [if_neg hi]; exact hb
  · exact {
      below := h.below
      ext := fun b o hb => by
        by_cases hi : inB b
        · obtain ⟨i, c, hc, hcb⟩ := hi
          have := (h.fresh _ c b (hB i c hc) hcb).2
          rw [h.ext b o hb] at this; cases this
        · simp only [if_neg hi]; exact h.ext b o hb
      new := fun b hb => by
        by_cases hi : inB b
        · obtain ⟨i, c, hc, hcb⟩ := hi
          exact .inr (h.fresh _ c b (hB i c hc) hcb).1
        · simp only [if_neg hi] at hb; exact h.new b hb
      sub := fun b o hb => by
        by_cases hi : inB b
        · simp only [if_pos hi] at hb; exact hb
        · simp only [if_neg hi] at hb; exact h.sub b o hb
      holds := fun i c hc => h.holds i c (hA i c hc)
      fresh := fun i c b hc hcb => by
        refine ⟨(h.fresh i c b (hA i c hc) hcb).1, ?_⟩
        have hn : ¬ inB b := by
          rintro ⟨j, e, he, heb⟩
          exact h.disj i (A.length + j) c e b (by have := (List.getElem?_eq_some_iff.1 hc).1; omega) (hA i c hc) (hB j e he) hcb heb
        simp only [if_neg hn]
        exact (h.fresh i c b (hA i c hc) hcb).2
      disj := fun i j c e b hij hc he hcb => h.disj i j c e b hij (hA i c hc) (hA j e he) hcb }
  · intro w' A' h'
    have split : ∀ (i : Nat) c, (A' ++ B)[i]? = some c → A'[i]? = some c ∨ (A'.length ≤ i ∧ B[i - A'.length]? = some c) := fun i c hc => by
      rw [List.getElem?_append] at hc
      split at hc
      · exact .inl hc
      · exact .inr ⟨by omega, hc⟩
    have hAf : ∀ (i : Nat) c b, A'[i]? = some c → c.blk = some b → ¬ inB b ∧ F b = none ∧ w0.heap.size ≤ b := fun i c b hc hcb => by
      obtain ⟨h1, h2⟩ := h'.fresh i c b hc hcb
      by_cases hi : inB b
      · simp only [if_pos hi] at h2
        obtain ⟨j, e, he, heb⟩ := hi
        have := Ch.lt (h.holds _ e (hB j e he)) heb
        rw [Array.getElem?_eq_getElem this] at h2; cases h2
      · simp only [if_neg hi] at h2
        exact ⟨hi, h2, h1⟩
    exact {
      below := h'.below
      ext := h.ext
      new := h.new
      sub := fun b o hb => h'.sub b o (by
        by_cases hi : inB b
        · obtain ⟨i, c, hc, hcb⟩ := hi
          rw [(h.fresh _ c b (hB i c hc) hcb).2] at hb; cases hb
        · simp only [if_neg hi]; exact hb)
      holds := fun i c hc => by
        rcases split i c hc with hc | ⟨_, hc⟩
        · exact h'.holds i c hc
        · refine Ch.move (h.holds _ c (hB _ c hc)) fun b hb => ?_
          have hlt := Ch.lt (h.holds _ c (hB _ c hc)) hb
          have hs := h'.sub b w.heap[b] (by
            have hi : inB b := ⟨_, c, hc, hb⟩
            simp only [if_pos hi]; exact Array.getElem?_eq_getElem hlt)
          rw [Array.getElem?_eq_getElem hlt]; exact hs
      fresh := fun i c b hc hcb => by
        rcases split i c hc with hc | ⟨_, hc⟩
        · exact ⟨(hAf i c b hc hcb).2.2, (hAf i c b hc hcb).2.1⟩
        · exact h.fresh _ c b (hB _ c hc) hcb
      disj := fun i j c e b hij hc he hcb => by
        rcases split i c hc with hc1 | ⟨hi1, hc1⟩ <;> rcases split j e he with he1 | ⟨hj1, he1⟩
        · exact h'.disj i j c e b hij hc1 he1 hcb
        · intro heb; exact (hAf i c b hc1 hcb).1 ⟨_, e, he1, heb⟩
        · intro heb; exact (hAf j e b he1 heb).1 ⟨_, c, hc1, hcb⟩
        · exact h.disj _ _ c e b (by omega) (hB _ c hc1) (hB _ e he1) hcb }
/-- The chunks in another order. -/
theorem Hp.reorder {L' : List Ch} (h : Hp w0 F0 F L w) (σ : Nat → Nat) (hinj : ∀ i j, i < L'.length → j < L'.length → σ i = σ j → i = j) (hget : ∀ (i : Nat) c, L'[i]? = some c → L[σ i]? = some c) : Hp w0 F0 F L' w where
  below := h.below
  ext := h.ext
  new := h.new
  sub := h.sub
  holds := fun i c hc => h.holds _ c (hget i c hc)
  fresh := fun i c b hc hcb => h.fresh _ c b (hget i c hc) hcb
  disj := fun i j c e b hij hc he hcb => h.disj _ _ c e b (fun e' => hij (hinj i j (List.getElem?_eq_some_iff.1 hc).1 (List.getElem?_eq_some_iff.1 he).1 e')) (hget i c hc) (hget j e he) hcb
/-- The i-th chunk alone is worked on. -/
theorem Hp.lend1 (h : Hp w0 F0 F L w) (i : Nat) {c : Ch} (hi : L[i]? = some c) : ∃ F1, Sub F F1 ∧ Hp w0 F0 F1 [c] w ∧ ∀ w' c', Hp w0 F0 F1 [c'] w' → Hp w0 F0 F (L.set i c') w' := by
  have hlt := (List.getElem?_eq_some_iff.1 hi).1
  have h1 : Hp w0 F0 F ([c] ++ L.set i .dead) w := by
    have hk := h.kill i
    refine ⟨h.below, h.ext, h.new, h.sub, ?_, ?_, ?_⟩
    · intro j e he
      cases j with
      | zero => simp at he; subst he; exact h.holds i _ hi
      | succ j => exact hk.holds j e (by simpa using he)
    · intro j e b he hb
      cases j with
      | zero => simp at he; subst he; exact h.fresh i _ b hi hb
      | succ j => exact hk.fresh j e b (by simpa using he) hb
    · have key : ∀ (j : Nat) e b, (L.set i .dead)[j]? = some e → e.blk = some b → c.blk ≠ some b := fun j e b he hb hcb => by
        by_cases hij : i = j
        · subst hij
          rw [List.getElem?_set_self hlt] at he
          cases he
          simp [Ch.blk] at hb
        · rw [List.getElem?_set_ne hij] at he
          exact h.disj i j c e b hij hi he hcb hb
      intro j k d e b hjk hd he hb
      cases j with
      | zero =>
        cases k with
        | zero => exact absurd rfl hjk
        | succ k =>
          simp at hd; subst hd
          intro heb
          exact key k e b (by simpa using he) heb hb
      | succ j =>
        cases k with
        | zero =>
          simp at he; subst he
          exact key j d b (by simpa using hd) hb
        | succ k => exact hk.disj j k d e b (by omega) (by simpa using hd) (by simpa using he) hb
  obtain ⟨F1, hs, h2, h3⟩ := h1.lend
  refine ⟨F1, hs, h2, fun w' c' h' => ?_⟩
  have h4 := h3 w' [c'] h'
  refine h4.reorder (fun j => if j = i then 0 else j + 1) ?_ ?_
  · intro a b _ _ e
    split at e <;> split at e <;> omega
  · intro j e he
    by_cases hij : j = i
    · subst hij
      rw [List.getElem?_set_self hlt] at he
      cases he
      simp
    · rw [List.getElem?_set_ne (fun e => hij e.symm)] at he
      simp only [if_neg hij, List.singleton_append, List.getElem?_cons_succ]
      rw [List.getElem?_set_ne (fun e => hij e.symm)]
      exact he
/-- An own row's block, told as a box. -/
theorem Hp.ownBox (h : Hp w0 F0 F L w) (i : Nat) {v : Value} {T size n : Nat} {xs : List Value} (hi : L[i]? = some (.own v T size n xs)) (hn : 0 < n) : ∃ b c cs, v = .slice (some ⟨b, 0, none⟩) n c ∧ n ≤ c ∧ Hp w0 F0 F (L.set i (.box b cs T)) w ∧ n * size ≤ cs.length ∧ cs.take (n * size) = xs := by
  obtain ⟨h1, h2⟩ := h.holds i _ hi
  rcases h2 with ⟨rfl, rfl⟩ | ⟨g', cap, cur, rfl, hg, hh, hle, hm, hcs, ht⟩
  · omega
  · refine ⟨g', cap, cur.toList, rfl, hle, h.retell i (.box g' cur.toList T) hi ?_ ?_, ?_, ?_⟩
    · simpa [Ch.holds] using hh
    · intro b hb
      simp only [Ch.blk, Option.some.injEq] at hb
      subst hb
      simp [Ch.blk, Value.ownBlock]
    · have := congrArg List.length ht
      rw [List.length_take, h1] at this
      simp at this ⊢
      omega
    · simpa using ht
end
end Go.Proofs.YtmiihhbgfijcmaaGreat.K


