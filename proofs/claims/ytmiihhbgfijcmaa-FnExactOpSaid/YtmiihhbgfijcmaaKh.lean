/- The calculus, eighth part: results told as chunks; one chunk worked on wherever it stands; literals of any number of one-cell elements; bits; pieces of strings. -/
import Derived.Test.YtmiihhbgfijcmaaUi
namespace Go.Proofs.Ytmiihhbgfijcmaa.K
open Go Go.RowKit
set_option linter.unusedVariables false
set_option linter.unusedSimpArgs false
section
variable {P : Program} {R : Regs} {w0 : World} {F0 F : Fz} {L : List Ch} {d : Option Nat} {ty : TypeId} {pos : String} {af : Array Edge} {g : Option (Nat × Bool)}
variable {n : Nat} {ops : Array Oper} {Q : Post} {w : World} {rest : List Oper}
theorem Val.nilc {x : Operand} {a : Addr} (hx : ev R x = .pointer (some a)) : Val P (Hp w0 F0 F L) R ⟨d, .nilCheck x, ty, pos, af, g⟩ (.pointer (some a)) := fun w _ => by
  simp [execOp, hx]
theorem xor_i64 (a b : Nat) (ha : a < 4611686018427387904) (hb : b < 4611686018427387904) (w : World) (t : TypeId) : (binOp .xor t (.int .i64 (a : Int)) (.int .i64 (b : Int))).run P w = .ok (.int .i64 ((a ^^^ b : Nat) : Int)) w ∧ a ^^^ b < 4611686018427387904 := by
  have hx : a ^^^ b < 2 ^ 62 := Nat.xor_lt_two_pow (by omega) (by omega)
  have h1 : (BitVec.ofInt 64 (a : Int)).toNat = a := by
    rw [BitVec.ofInt_natCast, BitVec.toNat_ofNat]; exact Nat.mod_eq_of_lt (by omega)
  have h2 : (BitVec.ofInt 64 (b : Int)).toNat = b := by
    rw [BitVec.ofInt_natCast, BitVec.toNat_ofNat]; exact Nat.mod_eq_of_lt (by omega)
  refine ⟨?_, hx⟩
  have hb : binOp .xor t (.int .i64 (a : Int)) (.int .i64 (b : Int)) = pure (.int .i64 (IntKind.i64.wrap ((BitVec.ofInt 64 (a : Int) ^^^ BitVec.ofInt 64 (b : Int)).toNat : Int))) := rfl
  rw [hb, BitVec.toNat_xor, h1, h2, wrap_in (by omega)]
  rfl
theorem Val.xorN {t t' : TypeId} {x y : Operand} {a b : Nat} (hx : ev R x = .int .i64 (a : Int)) (hy : ev R y = .int .i64 (b : Int)) (ha : a < 4611686018427387904) (hb : b < 4611686018427387904) : Val P (Hp w0 F0 F L) R ⟨d, .binOp .xor t x y t', ty, pos, af, g⟩ (.int .i64 ((a ^^^ b : Nat) : Int)) := Val.bin hx hy fun w => (xor_i64 a b ha hb w t).1
theorem Val.slStrFrom {T lo : Nat} {x y : Operand} {s : ByteArray} (ht : P.underlying T = some .string) (hx : ev R x = .string s) (hy : ev R y = .int .i64 (lo : Int)) (h1 : lo ≤ s.size) :
    Val P (Hp w0 F0 F L) R ⟨d, .slice T x (some y) none none, ty, pos, af, g⟩ (.string (s.extract lo s.size)) := fun w _ => by
  have h1' : (lo : Int) ≤ (s.size : Int) := by omega
  simp [execOp, Instr.sliceAt, Instr.slice, Instr.sliceBounds, Instr.sliceBound, asIntOf, run_underlying ht, hx, hy, h1', h1]
theorem Val.slStrTo {T hi : Nat} {x y : Operand} {s : ByteArray} (ht : P.underlying T = some .string) (hx : ev R x = .string s) (hy : ev R y = .int .i64 (hi : Int)) (h1 : hi ≤ s.size) :
    Val P (Hp w0 F0 F L) R ⟨d, .slice T x none (some y) none, ty, pos, af, g⟩ (.string (s.extract 0 hi)) := fun w _ => by
  have h1' : (hi : Int) ≤ (s.size : Int) := by omega
  simp [execOp, Instr.sliceAt, Instr.slice, Instr.sliceBounds, Instr.sliceBound, asIntOf, run_underlying ht, hx, hy, h1', h1]
theorem fill_one : ∀ (vs : List Value) (i : Nat) (c : Array Value), i + vs.length = c.size → (∀ v ∈ vs, v.oneCell' = true) → Instr.fill (fun i => some (i * 1, 1)) c ((vs.zipIdx i).map fun p => (p.2, p.1)) = some (c.toList.take i ++ vs).toArray
  | [], i, c, hi, _ => by
    simp only [List.zipIdx_nil, List.map_nil, Instr.fill, Option.some.injEq, List.append_nil]
    apply Array.ext'
    rw [List.take_of_length_le (by simp at hi ⊢; omega)]
  | v :: vs, i, c, hi, h1 => by
    simp only [List.length_cons] at hi
    have hv := cells1 (h1 v (by simp))
    simp only [List.zipIdx_cons, List.map_cons, Instr.fill, hv, Nat.mul_one]
    rw [if_neg (by simp; omega)]
    have e : (#[v].zipIdx.foldl (fun (cs : Array Value) (x : Value × Nat) => cs.setIfInBounds (i + x.2) x.1) c) = c.setIfInBounds i v := by
      have : #[v].zipIdx = #[(v, 0)] := by rfl
      rw [this]; simp
    have e' : Array.foldl (fun (cs : Array Value) (x : Value × Nat) => match x with | (c, j) => cs.setIfInBounds (i + j) c) c #[v].zipIdx = c.setIfInBounds i v := e
    rw [e']
    have ih := fill_one vs (i + 1) (c.setIfInBounds i v) (by simp; omega) (fun u hu => h1 u (by simp [hu]))
    simp only [Nat.mul_one] at ih
    rw [ih]
    congr 2
    have hlt : i < c.toList.length := by simp; omega
    rw [Array.toList_setIfInBounds, List.take_set, List.take_succ_eq_append_getElem hlt, List.set_append_right _ _ (by simp; omega)]
    simp [Nat.min_eq_left (show i ≤ c.size by omega)]
/-- A composite literal of one-cell elements, each given. -/
theorem WL.bsN {T e bytes k : Nat} {z : Value} {elems : Array (Nat × Operand)} {vs : List Value} (h : Hp w0 F0 F L w) (ht : P.underlying T = some (.slice e)) (hT : TI P e z 1 bytes) (he : elems.toList.map (fun p => (p.1, ev R p.2)) = (vs.zipIdx 0).map fun p => (p.2, p.1)) (hl : vs.length = k) (hk : 0 < k ∧ k ≤ 1000) (h1 : ∀ v ∈ vs, v.oneCell' = true)
    (kk : ∀ b w', Hp w0 F0 F (L ++ [.box b vs e]) w' → WL P n ops Q rest (updO R d (.slice (some ⟨b, 0, none⟩) k k)) w') (hw : wantB ops R g = true := by rfl) : WL P n ops Q (⟨d, .buildSlice T k elems, ty, pos, af, g⟩ :: rest) R w := by
  refine WL.val (v := .slice (some ⟨w.heap.size, 0, none⟩) k k) (w' := w.alloc (.cells vs.toArray e)) hw ?_ (kk _ _ (h.alloc vs e))
  have h24 : ¬ (k * 1 > 2 ^ 24) := by omega
  have h0 : ¬ (k * 1 = 0) := by omega
  have hf := fill_one vs 0 ((Array.range (k * 1)).map (fun i => z.cells[i % z.cells.size]!)) (by simp [hl]) h1
  rw [List.take_zero, List.nil_append] at hf
  have hel : (elems.map fun p => (p.1, ev R p.2)).toList = (vs.zipIdx 0).map fun p => (p.2, p.1) := by rw [Array.toList_map]; exact he
  simp only [execOp, Instr.buildSlice, Sem.run_bind, run_underlying ht, Result.andThen_ok, hT.sizeOf w, if_neg h24, if_neg h0, hT.zero w, Sem.run_pure]
  have hel' : (Array.map (fun (x : Nat × Operand) => match x with | (i, y) => (i, ev R y)) elems).toList = (vs.zipIdx 0).map fun p => (p.2, p.1) := hel
  rw [hel', hf]
  rfl

/-! ### Results told as chunks -/
def Held (c : Ch) (s : Value) (n size : Nat) (xs : List Value) : Prop := ∀ (G : Fz) w, c.holds w → (∀ b, c.blk = some b → G b = w.heap[b]?) → FRow G s n size xs
theorem held_own {s : Value} {T n size : Nat} {xs : List Value} : Held (.own s T size n xs) s n size xs := fun G w hw hb => own_row hw hb
theorem held_box {b T n size : Nat} {xs : List Value} (hl : xs.length = n * size) (hm : n ≤ 9223372036854775807) : Held (.box b xs T) (.slice (some ⟨b, 0, none⟩) n n) n size xs := fun G w hw hb =>
  box_row (by rw [hb b rfl]; exact hw) hl hm
theorem Hp.freezeHeld (h : Hp w0 F0 F L w) (i : Nat) {c : Ch} {s : Value} {n size : Nat} {xs : List Value} (hi : L[i]? = some c) (hh : Held c s n size xs) : ∃ F', Sub F F' ∧ Hp w0 F0 F' (L.set i .dead) w ∧ FRow F' s n size xs := by
  obtain ⟨F', h1, h2, h3⟩ := h.freeze i hi
  exact ⟨F', h1, h2, hh F' w (h.holds i _ hi) h3⟩
theorem Hp.rowHeld (h : Hp w0 F0 F L w) (i : Nat) {c : Ch} {s : Value} {n size : Nat} {xs : List Value} (hi : L[i]? = some c) (hh : Held c s n size xs) : FRow (hv w) s n size xs := hh _ w (h.holds i _ hi) fun _ _ => rfl
/-- One chunk is worked on by a callee that hands back a row of its own besides. -/
theorem Hp.lend2 (h : Hp w0 F0 F L w) (i : Nat) {c : Ch} (hi : L[i]? = some c) : ∃ F1, Sub F F1 ∧ Hp w0 F0 F1 [c] w ∧ ∀ w' c' e, Hp w0 F0 F1 [c', e] w' → Hp w0 F0 F (L.set i c' ++ [e]) w' := by
  have hlt := (List.getElem?_eq_some_iff.1 hi).1
  have h1 : Hp w0 F0 F ([c] ++ L.set i .dead) w := by
    have hk := h.kill i
    refine ⟨h.below, h.ext, h.new, h.sub, ?_, ?_, ?_⟩
    · intro j e he
      cases j with
      | zero => simp at he; subst he; exact h.holds i _ hi
      | succ j => exact hk.holds j e (by simpa using he)
    · intro j e b he hb
      cases j with
      | zero => simp at he; subst he; exact h.fresh i _ b hi hb
      | succ j => exact hk.fresh j e b (by simpa using he) hb
    · have key : ∀ (j : Nat) e b, (L.set i .dead)[j]? = some e → e.blk = some b → c.blk ≠ some b := fun j e b he hb hcb => by
        by_cases hij : i = j
        · subst hij
          rw [List.getElem?_set_self hlt] at he
          cases he
          simp [Ch.blk] at hb
        · rw [List.getElem?_set_ne hij] at he
          exact h.disj i j c e b hij hi he hcb hb
      intro j k d e b hjk hd he hb
      cases j with
      | zero =>
        cases k with
        | zero => exact absurd rfl hjk
        | succ k =>
          simp at hd; subst hd
          intro heb
          exact key k e b (by simpa using he) heb hb
      | succ j =>
        cases k with
        | zero =>
          simp at he; subst he
          exact key j d b (by simpa using hd) hb
        | succ k => exact hk.disj j k d e b (by omega) (by simpa using hd) (by simpa using he) hb
  obtain ⟨F1, hs, h2, h3⟩ := h1.lend
  refine ⟨F1, hs, h2, fun w' c' e h' => ?_⟩
  have h4 := h3 w' [c', e] h'
  refine h4.reorder (fun j => if j = i then 0 else if j = L.length then 1 else j + 2) ?_ ?_
  · intro a b ha hb e'
    split at e' <;> split at e' <;> (try split at e') <;> (try split at e') <;> omega
  · intro j x hx
    by_cases hij : j = i
    · subst hij
      rw [List.getElem?_append_left (by simpa using hlt), List.getElem?_set_self hlt] at hx
      cases hx
      simp
    · rw [if_neg hij]
      by_cases hj : j = L.length
      · subst hj
        rw [List.getElem?_append_right (by simp), List.length_set, Nat.sub_self] at hx
        simp at hx
        subst hx
        simp
      · rw [if_neg hj]
        have hjl : j < L.length := by
          have := (List.getElem?_eq_some_iff.1 hx).1
          simp at this; omega
        rw [List.getElem?_append_left (by simpa using hjl), List.getElem?_set_ne (fun e => hij e.symm)] at hx
        simp only [List.cons_append, List.nil_append, List.getElem?_cons_succ]
        rw [List.getElem?_set_ne (fun e => hij e.symm)]
        exact hx
end
end Go.Proofs.Ytmiihhbgfijcmaa.K
