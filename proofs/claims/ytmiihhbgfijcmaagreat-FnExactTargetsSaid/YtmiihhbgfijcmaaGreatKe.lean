/- The calculus, fifth part: rows made whole and filled in place; slices of slices and strings; what a box holds when it is fixed. -/
import Derived.Test.YtmiihhbgfijcmaaGreatVb
import Derived.Laws.MakeOwn
import Derived.Laws.Small
namespace Go.Proofs.YtmiihhbgfijcmaaGreat.K
open Go Go.RowKit
set_option linter.unusedVariables false
set_option linter.unusedSimpArgs false
section
variable {P : Program} {R : Regs} {w0 : World} {F0 F : Fz} {L : List Ch} {d : Option Nat} {ty : TypeId} {pos : String} {af : Array Edge} {g : Option (Nat × Bool)}
variable {n : Nat} {ops : Array Oper} {Q : Post} {w : World} {rest : List Oper}
/-- A row made whole is told as a box. -/
theorem WL.make {T e size bytes m : Nat} {z : Value} {x y : Operand} (h : Hp w0 F0 F L w) (ht : P.underlying T = some (.slice e)) (hT : TI P e z size bytes) (hx : ev R x = .int .i64 (m : Int)) (hy : ev R y = .int .i64 (m : Int)) (hb : bytes * m ≤ 281474976710656) (hm : m ≤ 9223372036854775807)
    (k : ∀ b w', Hp w0 F0 F (L ++ [.box b (madeCells z.cells (m * size)).toList e]) w' → WL P n ops Q rest (updO R d (.slice (some ⟨b, 0, none⟩) m m)) w') (hw : wantB ops R g = true := by rfl) : WL P n ops Q (⟨d, .makeSlice T x y, ty, pos, af, g⟩ :: rest) R w := by
  obtain ⟨i, h1, h2, h3, h4⟩ := hT.ex
  have hr := run_make (P := P) w T e i z ht h1 h2 .i64 .i64 (m : Int) (m : Int) (Int.natCast_nonneg _) (Int.le_refl _) (by rw [h4, ← Int.natCast_mul]; exact Int.ofNat_le.2 hb) (by omega)
  have h2 := h.alloc (madeCells z.cells (m * size)).toList e
  rw [Array.toArray_toList] at h2
  refine WL.val (v := .slice (some ⟨w.heap.size, 0, none⟩) m m) (w' := w.alloc (.cells (madeCells z.cells (m * size)) e)) hw ?_ (k _ _ h2)
  simp only [execOp, hx, hy, Sem.run_bind, hr, Result.andThen_ok, h3, Int.toNat_natCast, Sem.run_pure]
theorem setCells_at : ∀ (vs : List Value) (o i : Nat) (cs : List Value) (w : World) {b T : Nat}, w.heap[b]? = some (.cells cs.toArray T (0, 0)) → o + i + vs.length ≤ cs.length → (∀ v ∈ vs, v.oneCell' = true) →
    ∃ w', (storeCells ⟨b, o, none⟩ vs i).run P w = .ok () w' ∧ w'.heap[b]? = some (.cells (cs.take (o + i) ++ vs ++ cs.drop (o + i + vs.length)).toArray T (0, 0)) ∧ w'.os = w.os ∧ w'.tape = w.tape ∧ w'.output = w.output ∧ w'.heap.size = w.heap.size ∧ ∀ k, k ≠ b → w'.heap[k]? = w.heap[k]?
  | [], o, i, cs, w, b, T, hb, hl, _ => ⟨w, rfl, by simp only [List.length_nil, Nat.add_zero, List.append_nil, List.take_append_drop]; exact hb, rfl, rfl, rfl, rfl, fun _ _ => rfl⟩
  | v :: vs, o, i, cs, w, b, T, hb, hl, h1 => by
    simp only [List.length_cons] at hl
    have ho : o + i < cs.length := by omega
    have hc : w.cell? ⟨b, o + i, none⟩ = some cs[o + i] := by simp [World.cell?, hb, ho]
    have hf : w.frozen? ⟨b, o + i, none⟩ = false := by simp [World.frozen?, hb]
    have hv := h1 v (by simp)
    obtain ⟨w', hr, h2, h3, h4, h5, h6, h7⟩ := setCells_at vs o (i + 1) (cs.set (o + i) v) (w.setCell ⟨b, o + i, none⟩ v) (setCell_box hb) (by simp; omega) (fun u hu => h1 u (by simp [hu]))
    refine ⟨w', ?_, ?_, h3, h4, h5, by rw [h6]; simp [World.setCell], fun k hk => (h7 k hk).trans (Below.heap_setCell _ _ _ _ hk)⟩
    · simp only [storeCells, add_plain, Sem.run_bind, run_store P w ⟨b, o + i, none⟩ v .plain hv, hc, hf]
      simpa using hr
    · rw [h2]
      congr 3
      rw [show o + (i + 1) = o + i + 1 by omega, List.take_set, List.take_succ_eq_append_getElem ho, List.set_append_right _ _ (by simp; omega), List.drop_set_of_lt (by omega)]
      simp only [List.length_take, Nat.min_eq_left (Nat.le_of_lt ho), Nat.sub_self, List.set_cons_zero, List.append_assoc, List.cons_append, List.nil_append, List.length_cons]
      rw [show o + i + 1 + vs.length = o + i + (vs.length + 1) by omega]
/-- A value is stored somewhere in a box. -/
theorem WL.stA (i : Nat) {T t b o : Nat} {size bytes : Nat} {z : Value} {x y : Operand} {cs vs : List Value} (h : Hp w0 F0 F L w) (hi : L[i]? = some (.box b cs T)) (hT : TI P t z size bytes) (hx : ev R x = .pointer (some ⟨b, o, none⟩)) (hy : (ev R y).cells = vs.toArray) (h1 : ∀ v ∈ vs, v.oneCell' = true) (hs : vs.length = size) (hl : o + vs.length ≤ cs.length)
    (k : ∀ w', Hp w0 F0 F (L.set i (.box b (cs.take o ++ vs ++ cs.drop (o + vs.length)) T)) w' → WL P n ops Q rest (updO R d undef) w') (hw : wantB ops R g = true := by rfl) : WL P n ops Q (⟨d, .store t x y, ty, pos, af, g⟩ :: rest) R w := by
  obtain ⟨w', hr, h2, h3, h4, h5, h6, h7⟩ := setCells_at (P := P) vs o 0 cs w (h.holds i _ hi) (by omega) h1
  refine WL.unit (w' := w') hw ?_ (k _ (h.change i _ hi h3 h4 h5 (by omega) (fun k _ hne => h7 k (fun e => hne (by rw [e]; rfl))) (by simp only [Ch.holds]; exact h2) (fun b' hb' => .inl hb')))
  have hrun : (storeVar t ⟨b, o, none⟩ (ev R y)).run P w = .ok () w' := by
    simp only [storeVar, hy, Sem.run_bind, hT.sizeOf w, Result.andThen_ok, List.size_toArray, hs]
    simp only [ne_eq, not_true_eq_false, if_false, Sem.run_pure, Result.andThen_ok]
    exact hr
  simp only [execOp, Instr.storeAt, Instr.sureAddr, hx, Sem.run_bind, Sem.run_pure, Result.andThen_ok, hrun]
/-- A box is fixed: a row. -/
theorem Hp.freezeBox (h : Hp w0 F0 F L w) (i : Nat) {b T m size : Nat} {cs : List Value} (hi : L[i]? = some (.box b cs T)) (hl : cs.length = m * size) (hm : m ≤ 9223372036854775807) : ∃ F', Sub F F' ∧ Hp w0 F0 F' (L.set i .dead) w ∧ FRow F' (.slice (some ⟨b, 0, none⟩) m m) m size cs := by
  obtain ⟨F', h1, h2, h3⟩ := h.freeze i hi
  refine ⟨F', h1, h2, hl, hm, ⟨_, m, rfl, Nat.le_refl _⟩, .inr ⟨b, 0, m, cs.toArray, T, (0, 0), rfl, (h3 b rfl).trans (h.holds i _ hi), fun j u hu => by rw [Nat.zero_add]; simpa using hu⟩⟩
theorem FRow.head {v : Value} {nn size i : Nat} {xs : List Value} (h : FRow F v nn size xs) (hi : i ≤ nn) : FRow F (headS v i) i size (xs.take (i * size)) := by
  obtain ⟨A, c, rfl, hc⟩ := h.val
  refine ⟨by rw [List.length_take, h.len, Nat.min_eq_left (Nat.mul_le_mul_right _ hi)], by have := h.max; omega, ⟨A, c, rfl, by omega⟩, ?_⟩
  by_cases h0 : i = 0
  · exact .inl h0
  · refine .inr ?_
    rcases h.cells with h1 | ⟨gg, off, c', cs, T, fz, he, hg, hcell⟩
    · omega
    · simp only [Value.slice.injEq, true_and] at he
      obtain ⟨rfl, rfl⟩ := he
      refine ⟨gg, off, c, cs, T, fz, rfl, hg, fun j u hu => ?_⟩
      rw [List.getElem?_take] at hu
      split at hu
      · exact hcell _ u hu
      · cases hu
/-- A row's piece. -/
def midS (v : Value) (lo hi size : Nat) : Value := headS (fromS v lo size) (hi - lo)
theorem FRow.mid {v : Value} {nn size lo hi : Nat} {xs : List Value} (h : FRow F v nn size xs) (h1 : lo ≤ hi) (h2 : hi ≤ nn) : FRow F (midS v lo hi size) (hi - lo) size ((xs.drop (lo * size)).take ((hi - lo) * size)) := (fromS_row h (by omega)).head (by omega)
theorem Val.slMid {T e size bytes lo hi nn : Nat} {z v : Value} {x y u : Operand} (ht : P.underlying T = some (.slice e)) (hT : TI P e z size bytes) (hx : ev R x = v) (hy : ev R y = .int .i64 (lo : Int)) (hu : ev R u = .int .i64 (hi : Int)) (hv : ∃ A c, v = .slice A nn c ∧ nn ≤ c) (h1 : lo ≤ hi) (h2 : hi ≤ nn) :
    Val P (Hp w0 F0 F L) R ⟨d, .slice T x (some y) (some u) none, ty, pos, af, g⟩ (midS v lo hi size) := fun w _ => by
  obtain ⟨A, c, rfl, hc⟩ := hv
  have h1' : (lo : Int) ≤ (hi : Int) := by omega
  have h2' : (hi : Int) ≤ (c : Int) := by omega
  simp [execOp, Instr.sliceAt, Instr.slice, Instr.sliceBounds, Instr.sliceBound, asIntOf, run_underlying ht, hT.sizeOf w, hx, hy, hu, h1', h2', midS, headS, fromS, h1, (by omega : hi ≤ c)]
theorem Hp.gain {w' : World} (h : Hp w0 F0 F L w) (c : Ch) (hB : Below w.heap.size w w') (hc : c.holds w') (hn : ∀ b, c.blk = some b → w.heap.size ≤ b) : Hp w0 F0 F (L ++ [c]) w' :=
  h.push c hB.os hB.tape hB.output hB.size (fun k hk => hB.block k hk) hc hn
/-- A field of a struct value. -/
def FE (P : Program) (s f off : Nat) : Prop := ∀ (cells : Array Value) v w, cells[off]? = some v → (Instr.field s (.agg cells) f).run P w = .ok v w
theorem FE.of {P : Program} {s f : Nat} {fs : Array Field} {fld : Field} {off t : Nat} (h : P.underlying s = some (.struct fs)) (hf : fs[f]? = some fld) (ho : fld.offset = off) (ht : fld.type = t) (hA : AG P t false) : FE P s f off := fun cells v w hv => by
  subst ho; subst ht
  simp [Instr.field, run_underlying h, hf, asAgg, part, hA w, hv]
theorem Val.fld {s f off : Nat} {x : Operand} {cells : Array Value} {v : Value} (hf : FE P s f off) (hx : ev R x = .agg cells) (hv : cells[off]? = some v) : Val P (Hp w0 F0 F L) R ⟨d, .field s x f, ty, pos, af, g⟩ v := fun w _ => by
  simp only [execOp, hx, Sem.run_bind, hf cells v w hv, Result.andThen_ok, Sem.run_pure]
theorem WD.dec {S : World → Prop} {ds : List Nat} {fuel : Nat} {l : Array Bool} {p : Prop} [Decidable p] {dd : Option Nat} (ht : p → WD P n ops Q S ds fuel l (updO R dd (.bool true)) w) (hf : ¬ p → WD P n ops Q S ds fuel l (updO R dd (.bool false)) w) : WD P n ops Q S ds fuel l (updO R dd (.bool (decide p))) w := by
  by_cases h : p
  · simp only [h, decide_true]; exact ht h
  · simp only [h, decide_false]; exact hf h
theorem WD.decB {S : World → Prop} {ds : List Nat} {fuel : Nat} {l : Array Bool} {b : Bool} {dd : Option Nat} (ht : b = true → WD P n ops Q S ds fuel l (updO R dd (.bool true)) w) (hf : b = false → WD P n ops Q S ds fuel l (updO R dd (.bool false)) w) : WD P n ops Q S ds fuel l (updO R dd (.bool b)) w := by
  cases b
  · exact hf rfl
  · exact ht rfl
theorem Ext.forget {F1 : Fz} {w1 : World} (h : Ext F0 w0 F1 w1) : Ext F0 w0 F0 w1 := ⟨h.below, Sub.refl _, fun b hb => .inl hb, h.ext.trans h.sub⟩
theorem Val.boolNe {t t' : TypeId} {x y : Operand} {a b : Bool} (ht : P.underlying t = some .bool) (hx : ev R x = .bool a) (hy : ev R y = .bool b) : Val P (Hp w0 F0 F L) R ⟨d, .binOp .neq t x y t', ty, pos, af, g⟩ (.bool (a != b)) := fun w _ => by
  simp [execOp, hx, hy, eqGuard_at_bool, run_neq_bool w t a b ht, bne]
theorem Val.boolEq {t t' : TypeId} {x y : Operand} {a b : Bool} (ht : P.underlying t = some .bool) (hx : ev R x = .bool a) (hy : ev R y = .bool b) : Val P (Hp w0 F0 F L) R ⟨d, .binOp .eql t x y t', ty, pos, af, g⟩ (.bool (a == b)) := fun w _ => by
  simp [execOp, hx, hy, eqGuard_at_bool, run_eql_bool w t a b ht]
/-- A struct that fills a box, handed back. -/
theorem finBox {fn : Func} {K : Ending → World → Prop} (h : Hp w0 F0 F L w) (i : Nat) {t T b : Nat} {cs : List Value} {z : Value} {size bytes : Nat} (hr : fn.results = #[.cell t T]) (hp : R t = .pointer (some ⟨b, 0, none⟩)) (hi : L[i]? = some (.box b cs T)) (hA : AG P T true) (hT : TI P T z size bytes) (hl : cs.length = size) (k : K (.returned (.agg cs.toArray)) w) : fin P n fn K .ret R w :=
  finC hr hp (run_loadN hA hT hl (fun j v hj => by rw [add_plain, Nat.zero_add]; exact box_cell h hi hj)) k
/-- A string's piece. -/
theorem Val.slStr {T lo hi : Nat} {x y u : Operand} {s : ByteArray} (ht : P.underlying T = some .string) (hx : ev R x = .string s) (hy : ev R y = .int .i64 (lo : Int)) (hu : ev R u = .int .i64 (hi : Int)) (h1 : lo ≤ hi) (h2 : hi ≤ s.size) :
    Val P (Hp w0 F0 F L) R ⟨d, .slice T x (some y) (some u) none, ty, pos, af, g⟩ (.string (s.extract lo hi)) := fun w _ => by
  have h1' : (lo : Int) ≤ (hi : Int) := by omega
  have h2' : (hi : Int) ≤ (s.size : Int) := by omega
  simp [execOp, Instr.sliceAt, Instr.slice, Instr.sliceBounds, Instr.sliceBound, asIntOf, run_underlying ht, hx, hy, hu, h1', h2', h1, h2]
end

/-! ### Rows that are filled in place -/
theorem fill_step {α : Type} {sz : Nat} (f : α → List Value) (hf : ∀ a, (f a).length = sz) (z : α) (es : List α) (i n : Nat) (a : α) (ha : es[i]? = some a) (hn : i < n) :
    ((es.take i).flatMap f ++ (List.replicate (n - i) z).flatMap f).take (i * sz) ++ f a ++ ((es.take i).flatMap f ++ (List.replicate (n - i) z).flatMap f).drop (i * sz + sz) = (es.take (i + 1)).flatMap f ++ (List.replicate (n - (i + 1)) z).flatMap f := by
  obtain ⟨hlt, e⟩ := List.getElem?_eq_some_iff.1 ha
  have hl : ((es.take i).flatMap f).length = i * sz := by rw [flat_len f hf]; simp [Nat.min_eq_left (Nat.le_of_lt hlt)]
  rw [List.take_left' hl, List.drop_append, hl, List.drop_eq_nil_of_le (by rw [hl]; omega), List.nil_append, show i * sz + sz - i * sz = sz by omega]
  rw [show n - i = (n - (i + 1)) + 1 by omega, List.replicate_succ, List.flatMap_cons, List.drop_left' (hf z), List.take_succ_eq_append_getElem hlt, e]
  simp
theorem made_flat {α : Type} {sz : Nat} (f : α → List Value) (hf : ∀ a, (f a).length = sz) (hs : 0 < sz) (z : α) (zc : Array Value) (hz : zc.toList = f z) (n : Nat) : (madeCells zc (n * sz)).toList = (List.replicate n z).flatMap f := by
  have hsz : zc.size = sz := by rw [← Array.length_toList, hz, hf]
  apply List.ext_getElem?
  intro j
  by_cases hj : j < n * sz
  · have h1 : (List.replicate n z)[j / sz]? = some z := by
      rw [List.getElem?_replicate, if_pos (Nat.div_lt_of_lt_mul (by rwa [Nat.mul_comm] at hj))]
    have hm : j % sz < sz := Nat.mod_lt _ hs
    have h2 : (f z)[j % sz]? = some ((f z)[j % sz]'(by rw [hf]; exact hm)) := List.getElem?_eq_getElem _
    have h3 := flat_get f hf _ _ _ _ _ h1 h2
    rw [Nat.mul_comm (j / sz) sz, Nat.div_add_mod] at h3
    rw [h3]
    have h4 : (madeCells zc (n * sz))[j]? = some (zc[j % zc.size]!) := by simp [madeCells, hj]
    rw [Array.getElem?_toList, h4, hsz]
    have : zc[j % sz]? = some ((f z)[j % sz]'(by rw [hf]; exact hm)) := by rw [← Array.getElem?_toList, hz]; exact h2
    simp [getElem!_def, this]
  · rw [List.getElem?_eq_none (by simp [size_madeCells]; omega), List.getElem?_eq_none (by rw [flat_len f hf]; simp; omega)]
end Go.Proofs.YtmiihhbgfijcmaaGreat.K

