/- The calculus, third part: the rules for operations that write or make memory, and for calls. -/
import Derived.Test.YtmiihhbgfijcmaaGreatKb
namespace Go.Proofs.YtmiihhbgfijcmaaGreat.K
open Go Go.RowKit
set_option linter.unusedVariables false
set_option linter.unusedSimpArgs false

section
variable {P : Program} {R : Regs} {w0 : World} {F0 F : Fz} {L : List Ch} {d : Option Nat} {ty : TypeId} {pos : String} {af : Array Edge} {g : Option (Nat × Bool)}
variable {n : Nat} {ops : Array Oper} {Q : Post} {w : World} {rest : List Oper}

/-! ### New boxes -/
theorem WL.alloc {T size bytes : Nat} {z : Value} (h : Hp w0 F0 F L w) (hT : TI P T z size bytes)
    (k : ∀ b w', Hp w0 F0 F (L ++ [.box b z.cells.toList T]) w' → WL P n ops Q rest (updO R d (.pointer (some ⟨b, 0, none⟩))) w') (hw : wantB ops R g = true := by rfl) : WL P n ops Q (⟨d, .alloc T, ty, pos, af, g⟩ :: rest) R w := by
  have h2 := h.alloc z.cells.toList T
  rw [Array.toArray_toList] at h2
  refine WL.val (v := .pointer (some ⟨w.heap.size, 0, none⟩)) (w' := w.alloc (.cells z.cells T)) hw ?_ (k _ _ h2)
  simp only [execOp, Instr.alloc, Sem.run_bind, hT.zero w, Result.andThen_ok]
  rfl
theorem WL.box {T : Nat} {x : Operand} {cs : List Value} (h : Hp w0 F0 F L w) (hx : (ev R x).cells = cs.toArray)
    (k : ∀ b w', Hp w0 F0 F (L ++ [.box b cs T]) w' → WL P n ops Q rest (updO R d (.pointer (some ⟨b, 0, none⟩))) w') (hw : wantB ops R g = true := by rfl) : WL P n ops Q (⟨d, .box T x, ty, pos, af, g⟩ :: rest) R w := by
  refine WL.val (v := .pointer (some ⟨w.heap.size, 0, none⟩)) (w' := w.alloc (.cells cs.toArray T)) hw ?_ (k _ _ (h.alloc cs T))
  simp only [execOp, Instr.box, newVar, newRow, hx]
  rfl
/-- A composite literal of a slice type: one element that fills the block. -/
theorem WL.bs1 {T e size bytes : Nat} {z : Value} {x : Operand} {cs : List Value} (h : Hp w0 F0 F L w) (ht : P.underlying T = some (.slice e)) (hT : TI P e z size bytes) (hs : 0 < size ∧ size ≤ 1000) (hx : (ev R x).cells = cs.toArray) (hl : cs.length = size)
    (k : ∀ b w', Hp w0 F0 F (L ++ [.box b cs e]) w' → WL P n ops Q rest (updO R d (.slice (some ⟨b, 0, none⟩) 1 1)) w') (hw : wantB ops R g = true := by rfl) : WL P n ops Q (⟨d, .buildSlice T 1 #[(0, x)], ty, pos, af, g⟩ :: rest) R w := by
  refine WL.val (v := .slice (some ⟨w.heap.size, 0, none⟩) 1 1) (w' := w.alloc (.cells cs.toArray e)) hw ?_ (k _ _ (h.alloc cs e))
  have h24 : ¬ (1 * size > 2 ^ 24) := by omega
  have hfill : ∀ c0 : Array Value, c0.size = size → Instr.fill (fun i => some (i * size, size)) c0 [(0, ev R x)] = some cs.toArray := by
    intro c0 hc0
    have e1 : cs.toArray.size = size := by simpa using hl
    simp only [Instr.fill, hx, Nat.zero_mul, Nat.zero_add, e1, hc0]
    rw [if_neg (by simp)]
    congr 1
    apply Array.ext'
    have key : ∀ (vs : List Value) (k : Nat) (c : Array Value), k + vs.length ≤ c.size → ((vs.zipIdx k).foldl (fun cs (x : Value × Nat) => cs.setIfInBounds x.2 x.1) c).toList = c.toList.take k ++ vs ++ c.toList.drop (k + vs.length) := by
      intro vs
      induction vs with
      | nil => intro k c _; simp
      | cons v vs ih =>
        intro k c hk
        simp only [List.length_cons] at hk
        rw [List.zipIdx_cons, List.foldl_cons, ih (k + 1) _ (by simp; omega)]
        simp only [Array.toList_setIfInBounds, List.length_cons]
        have hk' : k < c.toList.length := by simp; omega
        rw [List.take_set, List.take_succ_eq_append_getElem hk', List.set_append_right _ _ (by simp; omega)]
        rw [List.drop_set_of_lt (by omega)]
        simp only [List.length_take, List.append_assoc]
        rw [show k - min k c.toList.length = 0 by omega]
        simp [Nat.add_assoc, Nat.add_comm 1 vs.length]
    have hzip : cs.toArray.zipIdx.foldl (fun (acc : Array Value) (x : Value × Nat) => acc.setIfInBounds x.2 x.1) c0 = (cs.zipIdx.foldl (fun (acc : Array Value) (x : Value × Nat) => acc.setIfInBounds x.2 x.1) c0) := by
      rw [← Array.foldl_toList]; simp
    have := key cs 0 c0 (by omega)
    simp only [List.take_zero, List.nil_append, Nat.zero_add] at this
    rw [List.drop_eq_nil_of_le (by simp; omega), List.append_nil] at this
    rw [hzip, this]
  have h1 : ¬ (1 * size = 0) := by omega
  have hf := hfill ((Array.range (1 * size)).map (fun i => z.cells[i % z.cells.size]!)) (by simp)
  simp only [execOp, Instr.buildSlice, Sem.run_bind, run_underlying ht, Result.andThen_ok, hT.sizeOf w, if_neg h24, if_neg h1, hT.zero w, Sem.run_pure, List.map_toArray, List.map_cons, List.map_nil, hf]
  rfl
theorem WL.bs0 {T e size bytes : Nat} {z : Value} (h : Hp w0 F0 F L w) (ht : P.underlying T = some (.slice e)) (hT : TI P e z size bytes)
    (k : ∀ b w', Hp w0 F0 F (L ++ [.own (.slice (some ⟨b, 0, none⟩) 0 0) e size 0 []]) w' → WL P n ops Q rest (updO R d (.slice (some ⟨b, 0, none⟩) 0 0)) w') (hw : wantB ops R g = true := by rfl) : WL P n ops Q (⟨d, .buildSlice T 0 #[], ty, pos, af, g⟩ :: rest) R w := by
  have hp := h.push (w' := w.alloc (.cells #[] e)) (.own (.slice (some ⟨w.heap.size, 0, none⟩) 0 0) e size 0 []) rfl rfl rfl (by simp) (fun k hk => Below.heap_alloc _ _ _ hk)
    ⟨by simp, .inr ⟨w.heap.size, 0, #[], rfl, by omega, heap_alloc_new w _, by omega, by simp [maxLen], by simp, by simp⟩⟩ (fun b hb => by simp only [Ch.blk, Value.ownBlock, Option.some.injEq] at hb; omega)
  refine WL.val (v := .slice (some ⟨w.heap.size, 0, none⟩) 0 0) (w' := w.alloc (.cells #[] e)) hw ?_ (k _ _ hp)
  simp [execOp, Instr.buildSlice, run_underlying ht, hT.sizeOf w, Instr.fill, newRow, Array.range_zero']

/-! ### Stores -/
theorem setCell_box {cs : List Value} {T b o : Nat} {v : Value} (hb : w.heap[b]? = some (.cells cs.toArray T (0, 0))) : (w.setCell ⟨b, o, none⟩ v).heap[b]? = some (.cells (cs.set o v).toArray T (0, 0)) := by
  simp only [World.setCell, Array.getElem?_modify, if_true, hb, Option.map_some]
  simp
theorem Hp.set1 (h : Hp w0 F0 F L w) (i : Nat) {b o : Nat} {cs : List Value} {T : TypeId} (v : Value) (hi : L[i]? = some (.box b cs T)) : Hp w0 F0 F (L.set i (.box b (cs.set o v) T)) (w.setCell ⟨b, o, none⟩ v) :=
  h.change i _ hi rfl rfl rfl (by simp [World.setCell]) (fun k hk hne => Below.heap_setCell _ _ _ _ (fun e => hne (by rw [e]; rfl))) (setCell_box (h.holds i _ hi)) (fun b' hb' => .inl hb')
/-- One cell of a box is stored. -/
theorem WL.st (i : Nat) {T t b o : Nat} {bytes : Nat} {z : Value} {x y : Operand} {cs : List Value} {v : Value} (h : Hp w0 F0 F L w) (hi : L[i]? = some (.box b cs T)) (hT : TI P t z 1 bytes) (hx : ev R x = .pointer (some ⟨b, o, none⟩)) (hy : ev R y = v) (h1 : v.oneCell' = true) (ho' : Nat.blt o cs.length = true)
    (k : ∀ w', Hp w0 F0 F (L.set i (.box b (cs.set o v) T)) w' → WL P n ops Q rest (updO R d undef) w') (hw : wantB ops R g = true := by rfl) : WL P n ops Q (⟨d, .store t x y, ty, pos, af, g⟩ :: rest) R w := by
  have ho : o < cs.length := by simpa [Nat.blt_eq] using ho'
  refine WL.unit (w' := w.setCell ⟨b, o, none⟩ v) hw ?_ (k _ (h.set1 i v hi))
  have hb := h.holds i _ hi
  simp only [Ch.holds] at hb
  have hc : w.cell? ⟨b, o, none⟩ = some cs[o] := by simp [World.cell?, hb, ho]
  have hf : w.frozen? ⟨b, o, none⟩ = false := by simp [World.frozen?, hb]
  have hcells : v.cells = #[v] := by cases v <;> first | rfl | simp [Value.oneCell'] at h1
  have hrun : (storeVar t ⟨b, o, none⟩ v).run P w = .ok () (w.setCell ⟨b, o, none⟩ v) := by
    simp only [storeVar, hcells, Sem.run_bind, hT.sizeOf w, Result.andThen_ok, storeCells, Addr.add_zero']
    simp [run_store P w ⟨b, o, none⟩ v .plain h1, hc, hf, storeCells]
  simp only [execOp, Instr.storeAt, Instr.sureAddr, hx, hy, Sem.run_bind, Sem.run_pure, Result.andThen_ok, hrun]
theorem setCells_all : ∀ (vs : List Value) (i : Nat) (cs : List Value) (w : World) {b T : Nat}, w.heap[b]? = some (.cells cs.toArray T (0, 0)) → i + vs.length = cs.length → (∀ v ∈ vs, v.oneCell' = true) →
    ∃ w', (storeCells ⟨b, 0, none⟩ vs i).run P w = .ok () w' ∧ w'.heap[b]? = some (.cells (cs.take i ++ vs).toArray T (0, 0)) ∧ w'.os = w.os ∧ w'.tape = w.tape ∧ w'.output = w.output ∧ w'.heap.size = w.heap.size ∧ ∀ k, k ≠ b → w'.heap[k]? = w.heap[k]?
  | [], i, cs, w, b, T, hb, hl, _ => ⟨w, rfl, by simp only [List.length_nil, Nat.add_zero] at hl; rw [hl, List.take_length, List.append_nil]; exact hb, rfl, rfl, rfl, rfl, fun _ _ => rfl⟩
  | v :: vs, i, cs, w, b, T, hb, hl, h1 => by
    simp only [List.length_cons] at hl
    have ho : i < cs.length := by omega
    have hc : w.cell? ⟨b, i, none⟩ = some cs[i] := by simp [World.cell?, hb, ho]
    have hf : w.frozen? ⟨b, i, none⟩ = false := by simp [World.frozen?, hb]
    have hv := h1 v (by simp)
    obtain ⟨w', hr, h2, h3, h4, h5, h6, h7⟩ := setCells_all vs (i + 1) (cs.set i v) (w.setCell ⟨b, i, none⟩ v) (setCell_box hb) (by simp; omega) (fun u hu => h1 u (by simp [hu]))
    refine ⟨w', ?_, ?_, h3, h4, h5, by rw [h6]; simp [World.setCell], fun k hk => (h7 k hk).trans (Below.heap_setCell _ _ _ _ hk)⟩
    · simp only [storeCells, add_plain, Nat.zero_add, Sem.run_bind, run_store P w ⟨b, i, none⟩ v .plain hv, hc, hf]
      simpa using hr
    · rw [h2]
      congr 3
      rw [List.take_set, List.take_succ_eq_append_getElem ho, List.set_append_right _ _ (by simp; omega)]
      simp [Nat.min_eq_left (Nat.le_of_lt ho)]
/-- A value that fills a box is stored. -/
theorem WL.stS (i : Nat) {T t b : Nat} {size bytes : Nat} {z : Value} {x y : Operand} {cs vs : List Value} (h : Hp w0 F0 F L w) (hi : L[i]? = some (.box b cs T)) (hT : TI P t z size bytes) (hx : ev R x = .pointer (some ⟨b, 0, none⟩)) (hy : (ev R y).cells = vs.toArray) (h1 : ∀ v ∈ vs, v.oneCell' = true) (hs : vs.length = size) (hl : vs.length = cs.length)
    (k : ∀ w', Hp w0 F0 F (L.set i (.box b vs T)) w' → WL P n ops Q rest (updO R d undef) w') (hw : wantB ops R g = true := by rfl) : WL P n ops Q (⟨d, .store t x y, ty, pos, af, g⟩ :: rest) R w := by
  obtain ⟨w', hr, h2, h3, h4, h5, h6, h7⟩ := setCells_all (P := P) vs 0 cs w (h.holds i _ hi) (by omega) h1
  refine WL.unit (w' := w') hw ?_ (k _ (h.change i _ hi h3 h4 h5 (by omega) (fun k _ hne => h7 k (fun e => hne (by rw [e]; rfl))) (by simp only [Ch.holds]; rw [List.take_zero, List.nil_append] at h2; exact h2) (fun b' hb' => .inl hb')))
  have hrun : (storeVar t ⟨b, 0, none⟩ (ev R y)).run P w = .ok () w' := by
    simp only [storeVar, hy, Sem.run_bind, hT.sizeOf w, Result.andThen_ok, List.size_toArray, hs]
    simp only [ne_eq, not_true_eq_false, if_false, Sem.run_pure, Result.andThen_ok]
    exact hr
  simp only [execOp, Instr.storeAt, Instr.sureAddr, hx, Sem.run_bind, Sem.run_pure, Result.andThen_ok, hrun]

/-! ### append -/
/-- append onto a slice of the call's own. -/
theorem WL.app (i : Nat) {T e size bytes m c nn : Nat} {z : Value} {x y : Operand} {v : Value} {xs news : List Value} {ad : Addr} (h : Hp w0 F0 F L w) (hi : L[i]? = some (.own v e size nn xs)) (ht : P.underlying T = some (.slice e)) (hT : TI P e z size bytes) (hsz : 0 < size)
    (hx : ev R x = v) (hy : ev R y = .slice (some ad) m c) (hl : news.length = m * size) (hnews : ∀ j u, news[j]? = some u → w.cell? (ad.add j) = some u) (h1 : ∀ u ∈ news, u.oneCell' = true) (h63 : nn + m ≤ 9223372036854775807) (hb : (nn + m) * bytes ≤ 140737488355328)
    (k : ∀ v' w', Hp w0 F0 F (L.set i (.own v' e size (nn + m) (xs ++ news))) w' → WL P n ops Q rest (updO R d v') w') (hw : wantB ops R g = true := by rfl) : WL P n ops Q (⟨d, .call { callee := .builtin .append, args := #[x, y], argTypes := #[T, T] }, ty, pos, af, g⟩ :: rest) R w := by
  obtain ⟨i0, hi1, hi2, hi3, hi4⟩ := hT.ex
  obtain ⟨v', w', hr, h2, h3, _, h5⟩ := run_append_own_at (P := P) w 0 T ty e i0 z size bytes ht hi1 hi2 hi3 hi4 hT.zs hsz v nn xs (h.holds i _ hi) ad m c news hl hnews h1 (by simp only [maxLen]; omega) hb (Nat.zero_le _)
  refine WL.val (v := v') (w' := w') hw ?_ (k v' w' (h.change i (.own v' e size (nn + m) (xs ++ news)) hi h3.os h3.tape h3.output h3.size (fun k hk hne => h3.block k hk (fun e => hne e.symm)) h2 (fun b hb => ?_)))
  · unfold execOp
    simp only [resolve, invoke, builtin, Sem.run_bind, Sem.run_pure, Result.andThen_ok, List.map_toArray, List.map_cons, List.map_nil, hx, hy, hr]
  · rcases h5 with h5 | h5
    · left; exact h5.symm.trans hb
    · right
      have : some w.heap.size = some b := h5.symm.trans hb
      injection this with this
      omega
theorem box_news {i b : Nat} {cs : List Value} {T : TypeId} (h : Hp w0 F0 F L w) (hi : L[i]? = some (.box b cs T)) : ∀ j u, cs[j]? = some u → w.cell? ((⟨b, 0, none⟩ : Addr).add j) = some u := fun j u hu => by
  rw [add_plain, Nat.zero_add]; exact box_cell h hi hu
theorem row_news {v : Value} {m size : Nat} {xs : List Value} (h : Hp w0 F0 F L w) (hr : FRow F v m size xs) : ∀ j u, xs[j]? = some u → w.cell? ((⟨sblk v, soff v, none⟩ : Addr).add j) = some u := fun j u hu => by
  rw [add_plain]; exact hr.cell h.sub hu

/-! ### More that only looks -/
theorem Val.slTo {T e size bytes i c nn : Nat} {z : Value} {A : Option Addr} {x y : Operand} (ht : P.underlying T = some (.slice e)) (hT : TI P e z size bytes) (hx : ev R x = .slice A nn c) (hy : ev R y = .int .i64 (i : Int)) (hi : i ≤ c) :
    Val P (Hp w0 F0 F L) R ⟨d, .slice T x none (some y) none, ty, pos, af, g⟩ (.slice A i c) := fun w _ => by
  have hi' : (i : Int) ≤ (c : Int) := by omega
  cases A <;> simp [execOp, Instr.sliceAt, Instr.slice, Instr.sliceBounds, Instr.sliceBound, asIntOf, run_underlying ht, hT.sizeOf w, hx, hy, hi', Addr.add] <;> (intro e; omega)
/-- What a slice from i on is. -/
def fromS (v : Value) (i size : Nat) : Value := match v with
  | .slice A nn c => .slice (if c = i then A else A.map (·.add (i * size))) (nn - i) (c - i)
  | v => v
theorem Val.slFrom {T e size bytes i c nn : Nat} {z : Value} {A : Option Addr} {x y : Operand} (ht : P.underlying T = some (.slice e)) (hT : TI P e z size bytes) (hx : ev R x = .slice A nn c) (hy : ev R y = .int .i64 (i : Int)) (hi : i ≤ nn) :
    Val P (Hp w0 F0 F L) R ⟨d, .slice T x (some y) none none, ty, pos, af, g⟩ (fromS (.slice A nn c) i size) := fun w _ => by
  have hi' : (i : Int) ≤ (nn : Int) := by omega
  simp [execOp, Instr.sliceAt, Instr.slice, Instr.sliceBounds, Instr.sliceBound, asIntOf, run_underlying ht, hT.sizeOf w, hx, hy, hi', fromS]
  intro e; omega
theorem fromS_row {F : Fz} {v : Value} {nn size i : Nat} {xs : List Value} (h : FRow F v nn size xs) (hi : i ≤ nn) : FRow F (fromS v i size) (nn - i) size (xs.drop (i * size)) := by
  obtain ⟨A, c, rfl, hc⟩ := h.val
  refine ⟨by rw [List.length_drop, h.len, Nat.sub_mul], by have := h.max; omega, ⟨_, _, rfl, by omega⟩, ?_⟩
  by_cases h0 : nn - i = 0
  · exact .inl h0
  · refine .inr ?_
    rcases h.cells with h1 | ⟨gg, off, c', cs, T, fz, he, hg, hcell⟩
    · omega
    · simp only [Value.slice.injEq, true_and] at he
      obtain ⟨rfl, rfl⟩ := he
      refine ⟨gg, off + i * size, c - i, cs, T, fz, ?_, hg, fun j u hu => ?_⟩
      · simp only [fromS]
        rw [if_neg (by omega)]
        simp [add_plain]
      · rw [List.getElem?_drop] at hu
        rw [Nat.add_assoc]
        exact hcell _ u hu
theorem Val.max {x y : Operand} {a b : Int} {ats : Array TypeId} (hx : ev R x = .int .i64 a) (hy : ev R y = .int .i64 b) : Val P (Hp w0 F0 F L) R ⟨d, .call { callee := .builtin .max, args := #[x, y], argTypes := ats }, ty, pos, af, g⟩ (.int .i64 (if b > a then b else a)) := fun w _ => by
  simp [execOp, resolve, invoke, builtin, Builtin.max_, Builtin.max2, hx, hy]
theorem Val.build {T : Nat} {parts : Array (Nat × Operand)} {cells : Array Value} (h : P.built T ((parts.map fun (i, x) => (i, ev R x)).toList) = some cells) : Val P (Hp w0 F0 F L) R ⟨d, .build T parts, ty, pos, af, g⟩ (.agg cells) := fun w _ => by
  simp only [execOp, Sem.run_bind, run_build w T _ cells h, Result.andThen_ok, Sem.run_pure]
/-- Types that are no interface. -/
structure NI (P : Program) (t : TypeId) : Prop where
  ex : ∃ d, P.underlying t = some d ∧ ∀ ms, d ≠ .interface ms
theorem NI.of {t : TypeId} {d : TypeDesc} (h : P.underlying t = some d) (hd : (match d with | .interface _ => false | _ => true) = true := by rfl) : NI P t := ⟨d, h, fun ms e => by subst e; cases hd⟩
theorem ta_yes {T xT : TypeId} {v : Value} {ok : Bool} (hN : NI P T) (w : World) : (Instr.typeAssert (.iface T v) xT T ok).run P w = .ok (if ok then .tuple #[v, .bool true] else v) w := by
  obtain ⟨d, hd, hn⟩ := hN.ex
  cases d <;> first | exact absurd rfl (hn _) | simp [Instr.typeAssert, run_underlying hd]
theorem ta_no {T T' xT : TypeId} {z v : Value} {size bytes : Nat} (hN : NI P T) (hT : TI P T z size bytes) (hne : T' ≠ T) (w : World) : (Instr.typeAssert (.iface T' v) xT T true).run P w = .ok (.tuple #[z, .bool false]) w := by
  obtain ⟨d, hd, hn⟩ := hN.ex
  cases d <;> first | exact absurd rfl (hn _) | simp [Instr.typeAssert, run_underlying hd, hne, hT.zero w]
theorem ta_nil {T xT : TypeId} {z : Value} {size bytes : Nat} (hN : NI P T) (hT : TI P T z size bytes) (w : World) : (Instr.typeAssert .nilIface xT T true).run P w = .ok (.tuple #[z, .bool false]) w := by
  obtain ⟨d, hd, hn⟩ := hN.ex
  cases d <;> first | exact absurd rfl (hn _) | simp [Instr.typeAssert, run_underlying hd, hT.zero w]
theorem Val.taY {T xT : TypeId} {x : Operand} {v : Value} (hN : NI P T) (hx : ev R x = .iface T v) : Val P (Hp w0 F0 F L) R ⟨d, .typeAssert x xT T true, ty, pos, af, g⟩ (.tuple #[v, .bool true]) := fun w _ => by
  simp [execOp, hx, ta_yes hN w]
theorem Val.ta1 {T xT : TypeId} {x : Operand} {v : Value} (hN : NI P T) (hx : ev R x = .iface T v) : Val P (Hp w0 F0 F L) R ⟨d, .typeAssert x xT T false, ty, pos, af, g⟩ v := fun w _ => by
  simp [execOp, hx, ta_yes hN w]
theorem Val.taN {T T' xT : TypeId} {x : Operand} {z v : Value} {size bytes : Nat} (hN : NI P T) (hT : TI P T z size bytes) (hx : ev R x = .iface T' v) (hne : T' ≠ T) : Val P (Hp w0 F0 F L) R ⟨d, .typeAssert x xT T true, ty, pos, af, g⟩ (.tuple #[z, .bool false]) := fun w _ => by
  simp [execOp, hx, ta_no hN hT hne w]
theorem Val.ta0 {T xT : TypeId} {x : Operand} {z : Value} {size bytes : Nat} (hN : NI P T) (hT : TI P T z size bytes) (hx : ev R x = .nilIface) : Val P (Hp w0 F0 F L) R ⟨d, .typeAssert x xT T true, ty, pos, af, g⟩ (.tuple #[z, .bool false]) := fun w _ => by
  simp [execOp, hx, ta_nil hN hT w]
theorem Val.str {op : BinOp} {t t' : TypeId} {x y : Operand} {a b : ByteArray} {r : Bool} (hx : ev R x = .string a) (hy : ev R y = .string b) (hr : ∀ w, (Op.stringOp op a b).run P w = .ok (.bool r) w) : Val P (Hp w0 F0 F L) R ⟨d, .binOp op t x y t', ty, pos, af, g⟩ (.bool r) := fun w _ => by
  have hb : binOp op t (.string a) (.string b) = Op.stringOp op a b := by cases op <;> rfl
  simp [execOp, hx, hy, eqGuard_at_string, hb, hr w]
theorem Val.strEq {t t' : TypeId} {x y : Operand} {a b : ByteArray} (hx : ev R x = .string a) (hy : ev R y = .string b) : Val P (Hp w0 F0 F L) R ⟨d, .binOp .eql t x y t', ty, pos, af, g⟩ (.bool (a.toList == b.toList)) := Val.str hx hy fun w => by simp [Op.stringOp]
theorem Val.strNe {t t' : TypeId} {x y : Operand} {a b : ByteArray} (hx : ev R x = .string a) (hy : ev R y = .string b) : Val P (Hp w0 F0 F L) R ⟨d, .binOp .neq t x y t', ty, pos, af, g⟩ (.bool !(a.toList == b.toList)) := Val.str hx hy fun w => by simp [Op.stringOp]
theorem Val.strLt {t t' : TypeId} {x y : Operand} {a b : ByteArray} (hx : ev R x = .string a) (hy : ev R y = .string b) : Val P (Hp w0 F0 F L) R ⟨d, .binOp .lss t x y t', ty, pos, af, g⟩ (.bool (Op.bytesLess a.toList b.toList)) := Val.str hx hy fun w => by simp [Op.stringOp]
theorem Val.strLe {t t' : TypeId} {x y : Operand} {a b : ByteArray} (hx : ev R x = .string a) (hy : ev R y = .string b) : Val P (Hp w0 F0 F L) R ⟨d, .binOp .leq t x y t', ty, pos, af, g⟩ (.bool (Op.bytesLess a.toList b.toList || a.toList == b.toList)) := Val.str hx hy fun w => by simp [Op.stringOp]
theorem Val.strGe {t t' : TypeId} {x y : Operand} {a b : ByteArray} (hx : ev R x = .string a) (hy : ev R y = .string b) : Val P (Hp w0 F0 F L) R ⟨d, .binOp .geq t x y t', ty, pos, af, g⟩ (.bool !(Op.bytesLess a.toList b.toList)) := Val.str hx hy fun w => by simp [Op.stringOp]
theorem Val.strIx {t i : Nat} {x y : Operand} {s : ByteArray} (ht : P.underlying t = some .string) (hx : ev R x = .string s) (hy : ev R y = .int .i64 (i : Int)) (hi : i < s.size) : Val P (Hp w0 F0 F L) R ⟨d, .index t x y, ty, pos, af, g⟩ (.int .u8 (s[i]'hi).toNat) := fun w _ => by
  have hg : s[i]? = some (s[i]'hi) := by simp [hi]
  simp [execOp, Instr.index, asIntOf, hx, hy, run_underlying ht, hg]
theorem Val.mkF {f : FuncId} {first captured : Array Operand} {fn : Fn} : Val P (Hp w0 F0 F L) R ⟨d, .makeFunc fn first captured, ty, pos, af, g⟩ (.func fn (first.map (ev R)) (captured.map (ev R))) := fun w _ => by
  simp [execOp, Instr.makeFunc]

/-! ### Calls of Go functions -/
theorem run_enter {f : FuncId} {fn : Func} {o : Oper} {xs : Array Operand} {ats : Array TypeId} (ho : o.op = .call { callee := .value (.func f), args := xs, argTypes := ats }) (hf : P.funcs[f]? = some fn) (hn : (fn.name == "runtime.NumGoroutine") = false) (hb : fn.body.isNone = false) :
    (execOp (ev R) o).run P w = .ok (.enter f (xs.map (ev R))) w := by
  simp only [execOp, ho, resolve, Deferred.ofValue, ev, invoke, callFunc, Sem.run_bind, Sem.run_pure, Result.andThen_ok, run_program, hf, hn, hb, Bool.false_eq_true, if_false, Array.empty_append, Array.append_empty]
/-- A function that can be called. -/
structure CF (P : Program) (f : FuncId) : Prop where
  ex : ∃ fn, P.funcs[f]? = some fn ∧ (fn.name == "runtime.NumGoroutine") = false ∧ fn.body.isNone = false
theorem WL.call {f : FuncId} {xs : Array Operand} {ats : Array TypeId} {args : List Value} (hc : CF P f) (ha : xs.toList.map (ev R) = args)
    (h : Calls P f args.toArray w fun e w'' => ∃ v, e = .returned v ∧ WL P n ops Q rest (updO R d v) w'') (hw : wantB ops R g = true := by rfl) : WL P n ops Q (⟨d, .call { callee := .value (.func f), args := xs, argTypes := ats }, ty, pos, af, g⟩ :: rest) R w := by
  obtain ⟨fn, h1, h2, h3⟩ := hc.ex
  subst ha
  rw [List.map_toArray.symm, Array.toArray_toList] at h
  exact WL.enter hw (run_enter rfl h1 h2 h3) h
end
end Go.Proofs.YtmiihhbgfijcmaaGreat.K

