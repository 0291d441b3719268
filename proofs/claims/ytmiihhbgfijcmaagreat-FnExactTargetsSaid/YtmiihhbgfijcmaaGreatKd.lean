/- The calculus, fourth part: regions that draw their order; splits on tests; loads through any reading. -/
import Derived.Test.YtmiihhbgfijcmaaGreatKc
import Derived.Test.YtmiihhbgfijcmaaGreatKl
namespace Go.Proofs.YtmiihhbgfijcmaaGreat.K
open Go Go.RowKit
set_option linter.unusedVariables false
set_option linter.unusedSimpArgs false

section
variable {P : Program} {R : Regs} {w0 : World} {F0 F : Fz} {L : List Ch} {d : Option Nat} {ty : TypeId} {pos : String} {af : Array Edge} {g : Option (Nat × Bool)}
variable {n : Nat} {ops : Array Oper} {Q : Post} {w : World} {rest : List Oper}

/-! ### Tests -/
theorem WL.dec {p : Prop} [Decidable p] {dd : Option Nat} (ht : p → WL P n ops Q rest (updO R dd (.bool true)) w) (hf : ¬ p → WL P n ops Q rest (updO R dd (.bool false)) w) : WL P n ops Q rest (updO R dd (.bool (decide p))) w := by
  by_cases h : p
  · simp only [h, decide_true]; exact ht h
  · simp only [h, decide_false]; exact hf h
theorem WL.decB {b : Bool} {dd : Option Nat} (ht : b = true → WL P n ops Q rest (updO R dd (.bool true)) w) (hf : b = false → WL P n ops Q rest (updO R dd (.bool false)) w) : WL P n ops Q rest (updO R dd (.bool b)) w := by
  cases b
  · exact hf rfl
  · exact ht rfl
theorem toList_eq {a b : ByteArray} : (a.toList == b.toList) = decide (a = b) := by
  by_cases h : a = b
  · subst h; simp
  · simp only [h, decide_false]
    rw [beq_eq_false_iff_ne]
    intro e
    apply h
    rw [ByteArray.toList_eq, ByteArray.toList_eq] at e
    cases a; cases b
    simp only [ByteArray.mk.injEq] at *
    exact Array.ext' e
section
theorem Val.sEq {t t' : TypeId} {x y : Operand} {a b : ByteArray} (hx : ev R x = .string a) (hy : ev R y = .string b) : Val P (Hp w0 F0 F L) R ⟨d, .binOp .eql t x y t', ty, pos, af, g⟩ (.bool (decide (a = b))) := by
  have := Val.strEq (P := P) (w0 := w0) (F0 := F0) (F := F) (L := L) (R := R) (d := d) (ty := ty) (pos := pos) (af := af) (g := g) (t := t) (t' := t') hx hy
  rwa [toList_eq] at this
theorem Val.sNe {t t' : TypeId} {x y : Operand} {a b : ByteArray} (hx : ev R x = .string a) (hy : ev R y = .string b) : Val P (Hp w0 F0 F L) R ⟨d, .binOp .neq t x y t', ty, pos, af, g⟩ (.bool (decide (a ≠ b))) := by
  have := Val.strNe (P := P) (w0 := w0) (F0 := F0) (F := F) (L := L) (R := R) (d := d) (ty := ty) (pos := pos) (af := af) (g := g) (t := t) (t' := t') hx hy
  rw [toList_eq] at this
  by_cases h : a = b <;> simpa [h] using this

theorem Val.quoi {t t' : TypeId} {x y : Operand} {a b c : Int} (hx : ev R x = .int .i64 a) (hy : ev R y = .int .i64 b) (hb : b ≠ 0) (hc : c = a.tdiv b ∧ -9223372036854775808 ≤ a.tdiv b ∧ a.tdiv b ≤ 9223372036854775807) : Val P (Hp w0 F0 F L) R ⟨d, .binOp .quo t x y t', ty, pos, af, g⟩ (.int .i64 c) := by
  have h := Val.quo (P := P) (S := Hp w0 F0 F L) (d := d) (ty := ty) (pos := pos) (af := af) (g := g) (t := t) (t' := t') hx hy hb
  rw [wrap_in hc.2, ← hc.1] at h; exact h

/-! ### Loads through any reading -/
theorem Val.ldG {t n' size p : Nat} {x : Operand} {v u : Value} {xs : List Value} (hA : AG P t false) (hr : ∀ w, Hp w0 F0 F L w → FRow (hv w) v n' size xs) (hx : ev R x = .pointer (some ⟨sblk v, soff v + p, none⟩)) (hu : xs[p]? = some u) : Val P (Hp w0 F0 F L) R ⟨d, .load t x, ty, pos, af, g⟩ u := fun w h => by
  simp [execOp, Instr.loadAt, Instr.sureAddr, hx, run_load1 hA ((hr w h).cell (Sub.refl _) hu)]
theorem Val.ldGf {t n' size p j : Nat} {x : Operand} {v u : Value} {xs : List Value} (hA : AG P t false) (hr : ∀ w, Hp w0 F0 F L w → FRow (hv w) v n' size xs) (hx : ev R x = .pointer (some ⟨sblk v, soff v + p + j, none⟩)) (hu : xs[p + j]? = some u) : Val P (Hp w0 F0 F L) R ⟨d, .load t x, ty, pos, af, g⟩ u := fun w h => by
  simp [execOp, Instr.loadAt, Instr.sureAddr, hx, run_load1 hA (by have := (hr w h).cell (Sub.refl _) hu; rwa [← Nat.add_assoc] at this)]
theorem Val.ldGS {t n' size bytes sz p : Nat} {z : Value} {x : Operand} {v : Value} {xs cs : List Value} (hA : AG P t true) (hT : TI P t z sz bytes) (hr : ∀ w, Hp w0 F0 F L w → FRow (hv w) v n' size xs) (hx : ev R x = .pointer (some ⟨sblk v, soff v + p, none⟩)) (hl : cs.length = sz) (hu : ∀ j u, cs[j]? = some u → xs[p + j]? = some u) : Val P (Hp w0 F0 F L) R ⟨d, .load t x, ty, pos, af, g⟩ (.agg cs.toArray) := fun w h => by
  have := run_loadN (P := P) (w := w) (a := ⟨sblk v, soff v + p, none⟩) hA hT hl (fun j u hj => by rw [add_plain, Nat.add_assoc]; exact (hr w h).cell (Sub.refl _) (hu j u hj))
  simp [execOp, Instr.loadAt, Instr.sureAddr, hx, this]
/-- A struct out of the middle of a box. -/
theorem Val.ldS' (i : Nat) {t b o : Nat} {x : Operand} {cs vs : List Value} {T : TypeId} {z : Value} {size bytes : Nat} (hA : AG P t true) (hT : TI P t z size bytes) (hi : L[i]? = some (.box b cs T)) (hx : ev R x = .pointer (some ⟨b, o, none⟩)) (hl : vs.length = size) (hu : ∀ j u, vs[j]? = some u → cs[o + j]? = some u) : Val P (Hp w0 F0 F L) R ⟨d, .load t x, ty, pos, af, g⟩ (.agg vs.toArray) := fun w h => by
  have := run_loadN (P := P) (w := w) (a := ⟨b, o, none⟩) hA hT hl (fun j v hj => by rw [add_plain]; exact box_cell h hi (hu j v hj))
  simp [execOp, Instr.loadAt, Instr.sureAddr, hx, this]
end

/-! ### A region that draws its order; behind the operations of ds S is not shown -/
def WD (P : Program) (n : Nat) (ops : Array Oper) (Q : Post) (S : World → Prop) (ds : List Nat) (fuel : Nat) (l : Array Bool) (R : Regs) (w : World) : Prop :=
  dsts n ops.toList = true → ∀ a, Ok n R a → Last.wpAnyLast P .any ops (lift n Q) S ds fuel l a w
variable {S : World → Prop} {ds : List Nat} {fuel : Nat} {l : Array Bool}
theorem W.draw {id : Nat} (S : World → Prop) (ds : List Nat) (m : Nat) (hm : P.follows .mixedOrders = true) (hd : dsts n ops.toList = true) (hs : ops.size = m)
    (h : WD P n ops Q S ds m (Array.replicate m false) R { w with drawn := w.drawn + 1 }) : W P n (.region id ops true) Q R w := fun a ha => by
  subst hs
  exact Last.wp_region_last (S := S) (ds := ds) hm (h hd a ha)
def tk (ops : Array Oper) (ds : List Nat) (l : Array Bool) (i : Nat) : Bool := Region.noSelect ops && Region.free .any ops l i && (Region.ready .any ops l).contains i && Last.Region.closedB .any ops l && Last.Region.lastB .any ops l ds i
theorem dsts_at (hd : dsts n ops.toList = true) {i : Nat} {o : Oper} (hi : ops[i]? = some o) : (match o.dst with | some d => Nat.blt d n | none => true) = true :=
  List.all_eq_true.1 hd o (by
    have := Array.mem_of_getElem? hi
    exact Array.mem_toList_iff.2 this)
theorem WD.take (i : Nat) {o : Oper} {v : Value} (hi : ops[i]? = some o) (hc : tk ops ds l i = true) (hQ : ∀ c R w, ¬ Q (.panic c) R w) (hS : S w) (hv : Val P S R o v) (h : WD P n ops Q S ds fuel (l.setIfInBounds i true) (updO R o.dst v) w) (hw : wantB ops R o.guard = true := by rfl) : WD P n ops Q S ds (fuel + 1) l R w := fun hd a ha => by
  simp only [tk, Bool.and_eq_true] at hc
  obtain ⟨⟨⟨⟨h1, h2⟩, h3⟩, h4⟩, h5⟩ := hc
  refine Last.wpAnyLast_take hi h1 h2 h3 h4 h5 (fun c a' w' hq => ?_) (.inl ⟨by rw [wanted_eq ha]; exact hw, fun w' hw' => by rw [ha.eval]; exact hv w' hw'⟩) hS (h hd _ (ha.putO (dsts_at hd hi) v))
  obtain ⟨R', _, hq⟩ := hq
  exact (hQ _ _ _ hq).elim
theorem WD.skip (i : Nat) {o : Oper} (hi : ops[i]? = some o) (hc : tk ops ds l i = true) (hQ : ∀ c R w, ¬ Q (.panic c) R w) (hS : S w) (hw : wantB ops R o.guard = false) (h : WD P n ops Q S ds fuel (l.setIfInBounds i true) (updO R o.dst undef) w) : WD P n ops Q S ds (fuel + 1) l R w := fun hd a ha => by
  simp only [tk, Bool.and_eq_true] at hc
  obtain ⟨⟨⟨⟨h1, h2⟩, h3⟩, h4⟩, h5⟩ := hc
  refine Last.wpAnyLast_take (v := undef) hi h1 h2 h3 h4 h5 (fun c a' w' hq => ?_) (.inr ⟨by rw [wanted_eq ha]; exact hw, rfl⟩) hS (h hd _ (ha.putO (dsts_at hd hi) undef))
  obtain ⟨R', _, hq⟩ := hq
  exact (hQ _ _ _ hq).elim
theorem WD.one0 (i : Nat) {o : Oper} (hi : ops[i]? = some o) (hr : (Region.ready .any ops l == [i]) = true) (K : Regs → World → Prop) (hk : ∀ R' w', K R' w' → (i ∉ ds → S w → S w') ∧ WD P n ops Q S ds fuel (l.setIfInBounds i true) R' w') (h : WL P n ops (thn K Q) [o] R w) : WD P n ops Q S ds (fuel + 1) l R w := fun hd a ha => by
  have hr' : Region.ready .any ops l = [i] := by simpa using hr
  refine Last.wpAnyLast_all hr' (by simp) fun j hj => ?_
  obtain rfl : j = i := by simpa using hj
  have h1 := h (by simp only [dsts, List.all_cons, List.all_nil, Bool.and_true]; exact dsts_at hd hi) a ha
  have key : ∀ (K : Act → World → Prop) (Q' : Exit → Act → World → Prop), wpList P ops Q' [o] a w → (∀ a w, Q' .normal a w → K a w) → wpOp P ops Q' j K a w := fun K Q' hl hk => by
    unfold wpList at hl
    unfold wpOp
    simp only [hi]
    split
    · rename_i hw; rw [if_pos hw] at hl; exact hl.imp (Oper.wp_mono fun a w h => hk a w h) id
    · rename_i hw; rw [if_neg hw] at hl; exact hk _ _ hl
  have h2 := key (fun a' w' => (j ∉ ds → S w → S w') ∧ Last.wpAnyLast P .any ops (lift n Q) S ds fuel (l.setIfInBounds j true) a' w') _ h1 (fun a' w' ⟨R', hR, hq⟩ => ⟨(hk R' w' hq).1, (hk R' w' hq).2 hd a' hR⟩)
  unfold wpOp at h2 ⊢
  simp only [hi] at h2 ⊢
  split
  · rename_i hw
    rw [if_pos hw] at h2
    rcases h2 with h2 | ⟨h2, a0, w0, h3⟩
    · refine .inl ?_
      unfold Oper.wp at h2 ⊢
      generalize (execOp a.eval o).run P w = r at h2 ⊢
      cases r with
      | ok x w' =>
        cases x <;> simp only [Oper.upon] at h2 ⊢ <;> try exact h2
      | halt x w' => cases x <;> simp only [Oper.upon] at h2 ⊢ <;> exact h2
    · exact .inr ⟨h2, a0, w0, h3⟩
  · rename_i hw
    rw [if_neg hw] at h2
    exact h2
/-- One operation alone may come up: it is walked as in a list of its own. -/
theorem WD.one (i : Nat) {o : Oper} (hi : ops[i]? = some o) (hr : (Region.ready .any ops l == [i]) = true) (h : WL P n ops (thn (fun R w' => S w' ∧ WD P n ops Q S ds fuel (l.setIfInBounds i true) R w') Q) [o] R w) : WD P n ops Q S ds (fuel + 1) l R w :=
  WD.one0 i hi hr _ (fun R' w' hq => ⟨fun _ _ => hq.1, hq.2⟩) h
/-- One of ds. -/
theorem WD.last (i : Nat) {o : Oper} (hi : ops[i]? = some o) (hr : (Region.ready .any ops l == [i]) = true) (hin : ds.contains i = true) (h : WL P n ops (thn (fun R w' => WD P n ops Q S ds fuel (l.setIfInBounds i true) R w') Q) [o] R w) : WD P n ops Q S ds (fuel + 1) l R w :=
  WD.one0 i hi hr _ (fun R' w' hq => ⟨fun hn => absurd (by simpa using hin) hn, hq⟩) h
theorem WD.nil (hr : (Region.ready .any ops l == []) = true) (h : Q .normal R w) : WD P n ops Q S ds fuel l R w := fun hd a ha =>
  Last.wpAnyLast_done (by simpa using hr) ⟨R, ha, h⟩ fuel
end
end Go.Proofs.YtmiihhbgfijcmaaGreat.K

