/- The calculus, second part: what is known of the heap (blocks that stay as they are; chunks of the call's own), and the rules for operations on it. -/
import Derived.Test.YtmiihhbgfijcmaaGreatKa
import Derived.Maps.AppendAt
import Derived.WideLaws
namespace Go.Proofs.YtmiihhbgfijcmaaGreat.K
open Go Go.RowKit
set_option linter.unusedVariables false
set_option linter.unusedSimpArgs false

abbrev Fz := Nat → Option Obj
def hv (w : World) : Fz := fun b => w.heap[b]?
def Sub (F G : Fz) : Prop := ∀ b o, F b = some o → G b = some o
theorem Sub.refl (F : Fz) : Sub F F := fun _ _ h => h
theorem Sub.trans {F G H : Fz} (h : Sub F G) (h' : Sub G H) : Sub F H := fun b o e => h' b o (h b o e)

/-- A chunk of the call's own: a box, a slice that it appends to (a block that begins it), or nothing any more. -/
inductive Ch where
  | box (b : Nat) (cs : List Value) (T : TypeId)
  | own (v : Value) (T : TypeId) (size n : Nat) (xs : List Value)
  | dead
  | obj (b : Nat) (o : Obj)
def Ch.holds (w : World) : Ch → Prop
  | .box b cs T => w.heap[b]? = some (.cells cs.toArray T (0, 0))
  | .own v T size n xs => w.ownsRow 0 T size v n xs
  | .dead => True
  | .obj b o => w.heap[b]? = some o
def Ch.blk : Ch → Option Nat
  | .box b _ _ => some b
  | .own v _ _ _ _ => v.ownBlock
  | .dead => none
  | .obj b _ => some b

theorem hv_lt {w : World} {b : Nat} {o : Obj} (h : hv w b = some o) : b < w.heap.size := (Array.getElem?_eq_some_iff.1 h).1
theorem Ch.lt {w : World} {c : Ch} (h : c.holds w) {b : Nat} (hb : c.blk = some b) : b < w.heap.size := by
  cases c with
  | box b' cs T => simp only [Ch.blk, Option.some.injEq] at hb; subst hb; exact hv_lt h
  | own v T size n xs => exact (World.ownsRow.lt h b hb).2
  | dead => simp [Ch.blk] at hb
  | obj b' o => simp only [Ch.blk, Option.some.injEq] at hb; subst hb; exact hv_lt h
theorem Ch.move {w w' : World} {c : Ch} (h : c.holds w) (hm : ∀ b, c.blk = some b → w'.heap[b]? = w.heap[b]?) : c.holds w' := by
  cases c with
  | box b cs T => exact (hm b rfl).trans h
  | own v T size n xs =>
    obtain ⟨h1, h2⟩ := h
    refine ⟨h1, ?_⟩
    rcases h2 with h2 | ⟨g, cap, cur, rfl, hg, hh, r⟩
    · exact .inl h2
    · exact .inr ⟨g, cap, cur, rfl, hg, (hm g (by simp [Ch.blk, Value.ownBlock])).trans hh, r⟩
  | dead => trivial
  | obj b o => exact (hm b rfl).trans h

structure Hp (w0 : World) (F0 F : Fz) (L : List Ch) (w : World) : Prop where
  below : Below w0.heap.size w0 w
  ext : Sub F0 F
  new : ∀ b, F b ≠ none → F0 b ≠ none ∨ w0.heap.size ≤ b
  sub : Sub F (hv w)
  holds : ∀ (i : Nat) c, L[i]? = some c → c.holds w
  fresh : ∀ (i : Nat) c b, L[i]? = some c → c.blk = some b → w0.heap.size ≤ b ∧ F b = none
  disj : ∀ (i j : Nat) c d b, i ≠ j → L[i]? = some c → L[j]? = some d → c.blk = some b → d.blk ≠ some b

/-- What a call tells of its world: old blocks as they were; F', what is fixed behind it. -/
structure Ext (F : Fz) (w : World) (F' : Fz) (w' : World) : Prop where
  below : Below w.heap.size w w'
  ext : Sub F F'
  new : ∀ b, F' b ≠ none → F b ≠ none ∨ w.heap.size ≤ b
  sub : Sub F' (hv w')

section
variable {w0 w w' : World} {F0 F : Fz} {L : List Ch}
theorem Hp.start (hF : Sub F (hv w)) : Hp w F F [] w :=
  ⟨Below.refl _ _, Sub.refl _, fun b h => .inl h, hF, fun i c h => by simp at h, fun i c b h => by simp at h, fun i j c d b _ h => by simp at h⟩
theorem Hp.toExt (h : Hp w0 F0 F L w) : Ext F0 w0 F w := ⟨h.below, h.ext, h.new, h.sub⟩
theorem Hp.none_ge (h : Hp w0 F0 F L w) {b : Nat} (hb : w.heap.size ≤ b) : F b = none := by
  cases e : F b with
  | none => rfl
  | some o => exact absurd (hv_lt (h.sub b o e)) (by omega)
theorem Hp.change (h : Hp w0 F0 F L w) (i : Nat) {c : Ch} (c' : Ch) (hi : L[i]? = some c) (ho : w'.os = w.os) (ht : w'.tape = w.tape) (hu : w'.output = w.output) (hs : w.heap.size ≤ w'.heap.size)
    (keep : ∀ k, k < w.heap.size → c.blk ≠ some k → w'.heap[k]? = w.heap[k]?) (hc : c'.holds w') (hn : ∀ b, c'.blk = some b → c.blk = some b ∨ w.heap.size ≤ b) : Hp w0 F0 F (L.set i c') w' where
  below := h.below.trans ⟨ho, ht, hu, hs, fun k hk => keep k (by have := h.below.size; omega) (fun e => by have := (h.fresh i c k hi e).1; omega)⟩
  ext := h.ext
  new := h.new
  sub := fun b o e => by
    have hb := h.sub b o e
    exact (keep b (hv_lt hb) (fun e' => by have := (h.fresh i c b hi e').2; rw [this] at e; cases e)).trans hb
  holds := fun j d hj => by
    by_cases hij : i = j
    · subst hij
      rw [List.getElem?_set_self (List.getElem?_eq_some_iff.1 hi).1] at hj
      cases hj; exact hc
    · rw [List.getElem?_set_ne hij] at hj
      have hd := h.holds j d hj
      exact Ch.move hd fun b hb => keep b (Ch.lt hd hb) (fun e => h.disj i j c d b hij hi hj e hb)
  fresh := fun j d b hj hb => by
    by_cases hij : i = j
    · subst hij
      rw [List.getElem?_set_self (List.getElem?_eq_some_iff.1 hi).1] at hj
      cases hj
      rcases hn b hb with e | e
      · exact h.fresh i c b hi e
      · exact ⟨by have := h.below.size; omega, h.none_ge e⟩
    · rw [List.getElem?_set_ne hij] at hj
      exact h.fresh j d b hj hb
  disj := fun j k d e b hjk hj hk hb he => by
    by_cases hij : i = j
    · subst hij
      rw [List.getElem?_set_self (List.getElem?_eq_some_iff.1 hi).1] at hj
      rw [List.getElem?_set_ne hjk] at hk
      cases hj
      rcases hn b hb with e' | e'
      · exact h.disj i k c e b hjk hi hk e' he
      · have := Ch.lt (h.holds k e hk) he; omega
    · rw [List.getElem?_set_ne hij] at hj
      by_cases hik : i = k
      · subst hik
        rw [List.getElem?_set_self (List.getElem?_eq_some_iff.1 hi).1] at hk
        cases hk
        rcases hn b he with e' | e'
        · exact h.disj i j c d b hij hi hj e' hb
        · have := Ch.lt (h.holds j d hj) hb; omega
      · rw [List.getElem?_set_ne hik] at hk
        exact h.disj j k d e b hjk hj hk hb he
theorem Hp.push (h : Hp w0 F0 F L w) (c : Ch) (ho : w'.os = w.os) (ht : w'.tape = w.tape) (hu : w'.output = w.output) (hs : w.heap.size ≤ w'.heap.size)
    (keep : ∀ k, k < w.heap.size → w'.heap[k]? = w.heap[k]?) (hc : c.holds w') (hn : ∀ b, c.blk = some b → w.heap.size ≤ b) : Hp w0 F0 F (L ++ [c]) w' := by
  have hget : ∀ (j : Nat) d, (L ++ [c])[j]? = some d → L[j]? = some d ∨ (j = L.length ∧ d = c) := fun j d hj => by
    rw [List.getElem?_append] at hj
    split at hj
    · exact .inl hj
    · rename_i hlt
      by_cases e : j - L.length = 0
      · rw [e] at hj
        simp at hj
        exact .inr ⟨by omega, hj.symm⟩
      · simp [List.getElem?_cons, e] at hj
  exact {
    below := h.below.trans ⟨ho, ht, hu, hs, fun k hk => keep k (by have := h.below.size; omega)⟩
    ext := h.ext
    new := h.new
    sub := fun b o e => (keep b (hv_lt (h.sub b o e))).trans (h.sub b o e)
    holds := fun j d hj => by
      rcases hget j d hj with hj | ⟨_, rfl⟩
      · exact Ch.move (h.holds j d hj) fun b hb => keep b (Ch.lt (h.holds j d hj) hb)
      · exact hc
    fresh := fun j d b hj hb => by
      rcases hget j d hj with hj | ⟨_, rfl⟩
      · exact h.fresh j d b hj hb
      · exact ⟨by have := h.below.size; have := hn b hb; omega, h.none_ge (hn b hb)⟩
    disj := fun j k d e b hjk hj hk hb he => by
      rcases hget j d hj with hj1 | ⟨hj1, hd⟩ <;> rcases hget k e hk with hk1 | ⟨hk1, he1⟩
      · exact h.disj j k d e b hjk hj1 hk1 hb he
      · subst he1; have := Ch.lt (h.holds j d hj1) hb; have := hn b he; omega
      · subst hd; have := Ch.lt (h.holds k e hk1) he; have := hn b hb; omega
      · omega }
theorem Hp.alloc (h : Hp w0 F0 F L w) (cs : List Value) (T : TypeId) : Hp w0 F0 F (L ++ [.box w.heap.size cs T]) (w.alloc (.cells cs.toArray T)) :=
  h.push _ rfl rfl rfl (by simp) (fun k hk => Below.heap_alloc _ _ _ hk) (heap_alloc_new w _) (fun b hb => by simp only [Ch.blk, Option.some.injEq] at hb; omega)
theorem Hp.drewN (h : Hp w0 F0 F L w) (m : Nat) : Hp w0 F0 F L { w with drawn := w.drawn + m } where
  below := h.below.trans ⟨rfl, rfl, rfl, Nat.le_refl _, fun _ _ => rfl⟩
  ext := h.ext
  new := h.new
  sub := h.sub
  holds := fun i c hi => Ch.move (h.holds i c hi) fun _ _ => rfl
  fresh := h.fresh
  disj := h.disj
theorem Hp.below_step (h : Hp w0 F0 F L w) (hB : Below w.heap.size w w') : Hp w0 F0 F L w' where
  below := h.below.trans (hB.mono h.below.size)
  ext := h.ext
  new := h.new
  sub := fun b o e => (hB.block b (hv_lt (h.sub b o e))).trans (h.sub b o e)
  holds := fun i c hi => Ch.move (h.holds i c hi) fun b hb => hB.block b (Ch.lt (h.holds i c hi) hb)
  fresh := h.fresh
  disj := h.disj
theorem Hp.call (h : Hp w0 F0 F L w) {F' : Fz} (hE : Ext F w F' w') : Hp w0 F0 F' L w' where
  below := h.below.trans (hE.below.mono h.below.size)
  ext := h.ext.trans hE.ext
  new := fun b hb => by
    rcases hE.new b hb with e | e
    · exact h.new b e
    · exact .inr (by have := h.below.size; omega)
  sub := hE.sub
  holds := fun i c hi => Ch.move (h.holds i c hi) fun b hb => hE.below.block b (Ch.lt (h.holds i c hi) hb)
  fresh := fun i c b hi hb => ⟨(h.fresh i c b hi hb).1, by
    cases e : F' b with
    | none => rfl
    | some o =>
      rcases hE.new b (by rw [e]; simp) with e' | e'
      · exact absurd (h.fresh i c b hi hb).2 e'
      · have := Ch.lt (h.holds i c hi) hb; omega⟩
  disj := h.disj
theorem Hp.keep (h : Hp w0 F0 F L w) (k : Nat) : Hp w0 F0 F (L.take k) w where
  below := h.below
  ext := h.ext
  new := h.new
  sub := h.sub
  holds := fun i c hi => h.holds i c (by rw [List.getElem?_take] at hi; split at hi; exact hi; cases hi)
  fresh := fun i c b hi => h.fresh i c b (by rw [List.getElem?_take] at hi; split at hi; exact hi; cases hi)
  disj := fun i j c d b hij hi hj => h.disj i j c d b hij (by rw [List.getElem?_take] at hi; split at hi; exact hi; cases hi) (by rw [List.getElem?_take] at hj; split at hj; exact hj; cases hj)
/-- A chunk is told otherwise in the same world. -/
theorem Hp.retell (h : Hp w0 F0 F L w) (i : Nat) {c : Ch} (c' : Ch) (hi : L[i]? = some c) (hc : c'.holds w) (hn : ∀ b, c'.blk = some b → c.blk = some b) : Hp w0 F0 F (L.set i c') w :=
  h.change i c' hi rfl rfl rfl (Nat.le_refl _) (fun _ _ _ => rfl) hc (fun b hb => .inl (hn b hb))
theorem Hp.kill (h : Hp w0 F0 F L w) (i : Nat) : Hp w0 F0 F (L.set i .dead) w := by
  cases hi : L[i]? with
  | none => rw [List.set_eq_of_length_le (by simpa using hi)]; exact h
  | some c => exact h.retell i .dead hi trivial (fun b hb => by simp [Ch.blk] at hb)
/-- A chunk is fixed from here on. -/
theorem Hp.freeze (h : Hp w0 F0 F L w) (i : Nat) {c : Ch} (hi : L[i]? = some c) : ∃ F', Sub F F' ∧ Hp w0 F0 F' (L.set i .dead) w ∧ (∀ b, c.blk = some b → F' b = w.heap[b]?) := by
  refine ⟨fun b => if c.blk = some b then w.heap[b]? else F b, fun b o e => ?_, ?_, fun b hb => by simp [hb]⟩
  · have : c.blk ≠ some b := fun e' => by have := (h.fresh i c b hi e').2; rw [this] at e; cases e
    simp [this, e]
  · have hk := h.kill i
    exact {
      below := hk.below
      ext := fun b o e => by
        have : c.blk ≠ some b := fun e' => by have := (h.fresh i c b hi e').2; rw [h.ext b o e] at this; cases this
        simp [this, h.ext b o e]
      new := fun b hb => by
        by_cases e : c.blk = some b
        · exact .inr (h.fresh i c b hi e).1
        · simp [e] at hb; exact h.new b hb
      sub := fun b o e => by
        by_cases e' : c.blk = some b
        · simp [e'] at e; exact e
        · simp [e'] at e; exact h.sub b o e
      holds := hk.holds
      fresh := fun j d b hj hb => by
        refine ⟨(hk.fresh j d b hj hb).1, ?_⟩
        have hF := (hk.fresh j d b hj hb).2
        have : c.blk ≠ some b := fun e => by
          by_cases hij : i = j
          · subst hij
            rw [List.getElem?_set_self (List.getElem?_eq_some_iff.1 hi).1] at hj
            cases hj
            simp [Ch.blk] at hb
          · rw [List.getElem?_set_ne hij] at hj
            exact h.disj i j c d b hij hi hj e hb
        simp [this, hF]
      disj := hk.disj }
end

/-! ### Types -/
structure TI (P : Program) (t : TypeId) (z : Value) (size bytes : Nat) : Prop where
  ex : ∃ i, P.info? t = some i ∧ i.zero = some z ∧ i.size = size ∧ i.bytes = bytes
  zs : z.cells.size = size
theorem TI.of {P : Program} {t : TypeId} {z : Value} {size bytes : Nat} (h : (P.info? t).map (fun i => (i.zero, i.size, i.bytes)) = some (some z, size, bytes)) (hz : z.cells.size = size := by rfl) : TI P t z size bytes := by
  refine ⟨?_, hz⟩
  cases e : P.info? t with
  | none => simp [e] at h
  | some i => simp [e] at h; exact ⟨i, rfl, h.1, h.2.1, h.2.2⟩
/-- Whether a type's value lies in several cells. -/
def AG (P : Program) (t : TypeId) (b : Bool) : Prop := ∀ w, (isAgg t).run P w = .ok b w
theorem AG.struct {P : Program} {t : TypeId} {fs : Array Field} (h : P.underlying t = some (.struct fs)) : AG P t true := fun w => by simp [isAgg, run_underlying h]
theorem AG.no {P : Program} {t : TypeId} {d : TypeDesc} (h : P.underlying t = some d) (h1 : ∀ fs, d ≠ .struct fs) (h2 : ∀ n e, d ≠ .array n e) : AG P t false := fun w => by
  simp only [isAgg, Sem.run_bind, run_underlying h, Result.andThen_ok]
  cases d <;> simp at h1 h2 ⊢
def FO (P : Program) (s f off : Nat) : Prop := ∀ a w, (Instr.fieldAt s (.pointer (some a)) f).run P w = .ok (.pointer (some (a.add off))) w
theorem TI.sizeOf {P : Program} {t : TypeId} {z : Value} {size bytes : Nat} (h : TI P t z size bytes) (w : World) : (sizeOf t).run P w = .ok size w := by
  obtain ⟨i, h1, h2, h3, h4⟩ := h.ex
  simp [Go.sizeOf, typeInfo, h1, h3]
theorem TI.zero {P : Program} {t : TypeId} {z : Value} {size bytes : Nat} (h : TI P t z size bytes) (w : World) : (zeroValue t).run P w = .ok z w := by
  obtain ⟨i, h1, h2, h3, h4⟩ := h.ex
  simp [zeroValue, typeInfo, h1, h2]

theorem add_plain (b o n : Nat) : Addr.add ⟨b, o, none⟩ n = ⟨b, o + n, none⟩ := Addr.add_lit b o n

/-! ### Rows that stay as they are -/
def sblk : Value → Nat
  | .slice (some a) _ _ => a.block
  | _ => 0
def soff : Value → Nat
  | .slice (some a) _ _ => a.off
  | _ => 0
structure FRow (F : Fz) (v : Value) (n size : Nat) (xs : List Value) : Prop where
  len : xs.length = n * size
  max : n ≤ 9223372036854775807
  val : ∃ A c, v = .slice A n c ∧ n ≤ c
  cells : n = 0 ∨ ∃ g off c cs T fz, v = .slice (some ⟨g, off, none⟩) n c ∧ F g = some (.cells cs T fz) ∧ ∀ (j : Nat) u, xs[j]? = some u → cs[off + j]? = some u
theorem FRow.mono {F G : Fz} {v : Value} {n size : Nat} {xs : List Value} (h : FRow F v n size xs) (hs : Sub F G) : FRow G v n size xs := by
  refine ⟨h.len, h.max, h.val, h.cells.imp id ?_⟩
  rintro ⟨g, off, c, cs, T, fz, e, hg, hc⟩
  exact ⟨g, off, c, cs, T, fz, e, hs _ _ hg, hc⟩
theorem FRow.cell {F : Fz} {v : Value} {n size : Nat} {xs : List Value} (h : FRow F v n size xs) {w : World} (hs : Sub F (hv w)) {j : Nat} {u : Value} (hu : xs[j]? = some u) : w.cell? ⟨sblk v, soff v + j, none⟩ = some u := by
  rcases h.cells with h0 | ⟨g, off, c, cs, T, fz, rfl, hg, hc⟩
  · have := h.len; rw [h0, Nat.zero_mul] at this
    rw [List.eq_nil_of_length_eq_zero this] at hu; simp at hu
  · have hg' := hs _ _ hg
    simp only [hv] at hg'
    simp only [sblk, soff, World.cell?, hg']
    simpa using hc j u hu
theorem FRow.slice {F : Fz} {v : Value} {n size : Nat} {xs : List Value} (h : FRow F v n size xs) (hn : 0 < n) : ∃ c, v = .slice (some ⟨sblk v, soff v, none⟩) n c := by
  rcases h.cells with h0 | ⟨g, off, c, cs, T, fz, rfl, hg, hc⟩
  · omega
  · exact ⟨c, rfl⟩
theorem own_row {F : Fz} {w : World} {v : Value} {T : TypeId} {size n : Nat} {xs : List Value} (h : w.ownsRow 0 T size v n xs) (hF : ∀ b, v.ownBlock = some b → F b = w.heap[b]?) : FRow F v n size xs := by
  obtain ⟨h1, h2⟩ := h
  rcases h2 with ⟨rfl, rfl⟩ | ⟨g, cap, cur, rfl, _, hh, hn, hm, hcs, ht⟩
  · exact ⟨h1, by omega, ⟨none, 0, rfl, Nat.le_refl _⟩, .inl rfl⟩
  · refine ⟨h1, by simp only [maxLen] at hm; omega, ⟨_, cap, rfl, hn⟩, .inr ⟨g, 0, cap, cur, T, (0, 0), rfl, (hF g rfl).trans hh, fun j u hu => ?_⟩⟩
    rw [Nat.zero_add]
    rw [← ht, List.getElem?_take] at hu
    split at hu
    · simpa using hu
    · cases hu
/-- A chunk of the call's own, read. -/
theorem Hp.row {w0 w : World} {F0 F : Fz} {L : List Ch} (h : Hp w0 F0 F L w) (i : Nat) {v : Value} {T : TypeId} {size n : Nat} {xs : List Value} (hi : L[i]? = some (.own v T size n xs)) : FRow (hv w) v n size xs := own_row (h.holds i _ hi) fun _ _ => rfl

section
variable {P : Program} {R : Regs} {w0 : World} {F0 F : Fz} {L : List Ch} {d : Option Nat} {ty : TypeId} {pos : String} {af : Array Edge} {g : Option (Nat × Bool)}
theorem run_load1 {t : TypeId} {a : Addr} {v : Value} {w : World} (hA : AG P t false) (h : w.cell? a = some v) : (loadVar t a).run P w = .ok v w := by
  simp [loadVar, hA w, h]
theorem run_loadN {t : TypeId} {a : Addr} {z : Value} {size bytes : Nat} {cs : List Value} {w : World} (hA : AG P t true) (hT : TI P t z size bytes) (hl : cs.length = size) (h : ∀ j v, cs[j]? = some v → w.cell? (a.add j) = some v) : (loadVar t a).run P w = .ok (.agg cs.toArray) w := by
  have := run_loadCells_list (P := P) w a cs h
  rw [hl] at this
  simp [loadVar, hA w, hT.sizeOf w, this]
theorem box_cell {w : World} (h : Hp w0 F0 F L w) {i b : Nat} {cs : List Value} {T : TypeId} (hi : L[i]? = some (.box b cs T)) {o : Nat} {v : Value} (hv : cs[o]? = some v) : w.cell? ⟨b, o, none⟩ = some v := by
  have := h.holds i _ hi
  simp only [Ch.holds] at this
  simp [World.cell?, this, hv]
theorem Val.fa {s f off b o : Nat} {x : Operand} (hf : FO P s f off) (hx : ev R x = .pointer (some ⟨b, o, none⟩)) : Val P (Hp w0 F0 F L) R ⟨d, .fieldAddr s x f, ty, pos, af, g⟩ (.pointer (some ⟨b, o + off, none⟩)) := fun w _ => by
  have h := hf ⟨b, o, none⟩ w
  rw [add_plain] at h
  simp only [execOp, hx, Sem.run_bind, h, Result.andThen_ok, Sem.run_pure]
/-- A load out of a box. -/
theorem Val.ld (i : Nat) {t b o : Nat} {x : Operand} {cs : List Value} {T : TypeId} {v : Value} (hA : AG P t false) (hi : L[i]? = some (.box b cs T)) (hx : ev R x = .pointer (some ⟨b, o, none⟩)) (hv : cs[o]? = some v) : Val P (Hp w0 F0 F L) R ⟨d, .load t x, ty, pos, af, g⟩ v := fun w h => by
  simp [execOp, Instr.loadAt, Instr.sureAddr, hx, run_load1 hA (box_cell h hi hv)]
/-- A struct that fills a box. -/
theorem Val.ldS (i : Nat) {t b : Nat} {x : Operand} {cs : List Value} {T : TypeId} {z : Value} {size bytes : Nat} (hA : AG P t true) (hT : TI P t z size bytes) (hi : L[i]? = some (.box b cs T)) (hx : ev R x = .pointer (some ⟨b, 0, none⟩)) (hl : cs.length = size) : Val P (Hp w0 F0 F L) R ⟨d, .load t x, ty, pos, af, g⟩ (.agg cs.toArray) := fun w h => by
  have := run_loadN (P := P) (w := w) (a := ⟨b, 0, none⟩) hA hT hl (fun j v hj => by rw [add_plain]; exact box_cell h hi (by simpa using hj))
  simp [execOp, Instr.loadAt, Instr.sureAddr, hx, this]
theorem Val.len {t e n : Nat} {x : Operand} {v : Value} (ht : P.underlying t = some (.slice e)) (hx : ev R x = v) (hv : ∃ A c, v = .slice A n c ∧ n ≤ c) : Val P (Hp w0 F0 F L) R ⟨d, .call { callee := .builtin .len, args := #[x], argTypes := #[t] }, ty, pos, af, g⟩ (.int .i64 n) := fun w _ => by
  obtain ⟨A, c, rfl, _⟩ := hv
  simp [execOp, resolve, invoke, builtin, Builtin.len_, hx, run_underlying ht, goInt]
theorem Val.lenStr {t : Nat} {x : Operand} {s : ByteArray} (ht : P.underlying t = some .string) (hx : ev R x = .string s) : Val P (Hp w0 F0 F L) R ⟨d, .call { callee := .builtin .len, args := #[x], argTypes := #[t] }, ty, pos, af, g⟩ (.int .i64 s.size) := fun w _ => by
  simp [execOp, resolve, invoke, builtin, Builtin.len_, hx, run_underlying ht, goInt]
theorem Val.ix {t e n i size bytes : Nat} {z : Value} {x y : Operand} {v : Value} (ht : P.underlying t = some (.slice e)) (hT : TI P e z size bytes) (hx : ev R x = v) (hy : ev R y = .int .i64 (i : Int)) (hv : ∃ c, v = .slice (some ⟨sblk v, soff v, none⟩) n c) (hi : i < n) :
    Val P (Hp w0 F0 F L) R ⟨d, .indexAddr t x y, ty, pos, af, g⟩ (.pointer (some ⟨sblk v, soff v + i * size, none⟩)) := fun w _ => by
  obtain ⟨c, hv⟩ := hv
  generalize sblk v = b at *
  generalize soff v = o at *
  subst hv
  have hlt : (i : Int) < n := by omega
  simp [execOp, Instr.indexAt, asIntOf, hx, hy, run_underlying ht, hT.sizeOf w, hi, add_plain]
/-- A load out of a row that stays. -/
theorem Val.ldR {t n size p : Nat} {x : Operand} {v u : Value} {xs : List Value} (hA : AG P t false) (hr : FRow F v n size xs) (hx : ev R x = .pointer (some ⟨sblk v, soff v + p, none⟩)) (hu : xs[p]? = some u) : Val P (Hp w0 F0 F L) R ⟨d, .load t x, ty, pos, af, g⟩ u := fun w h => by
  simp [execOp, Instr.loadAt, Instr.sureAddr, hx, run_load1 hA (hr.cell h.sub hu)]
theorem Val.ldRf {t n size p j : Nat} {x : Operand} {v u : Value} {xs : List Value} (hA : AG P t false) (hr : FRow F v n size xs) (hx : ev R x = .pointer (some ⟨sblk v, soff v + p + j, none⟩)) (hu : xs[p + j]? = some u) : Val P (Hp w0 F0 F L) R ⟨d, .load t x, ty, pos, af, g⟩ u := fun w h => by
  simp [execOp, Instr.loadAt, Instr.sureAddr, hx, run_load1 hA (by have := hr.cell h.sub hu; rwa [← Nat.add_assoc] at this)]
/-- A struct out of a row that stays. -/
theorem Val.ldRS {t n size bytes sz p : Nat} {z : Value} {x : Operand} {v : Value} {xs cs : List Value} (hA : AG P t true) (hT : TI P t z sz bytes) (hr : FRow F v n size xs) (hx : ev R x = .pointer (some ⟨sblk v, soff v + p, none⟩)) (hl : cs.length = sz) (hu : ∀ j u, cs[j]? = some u → xs[p + j]? = some u) : Val P (Hp w0 F0 F L) R ⟨d, .load t x, ty, pos, af, g⟩ (.agg cs.toArray) := fun w h => by
  have := run_loadN (P := P) (w := w) (a := ⟨sblk v, soff v + p, none⟩) hA hT hl (fun j u hj => by rw [add_plain, Nat.add_assoc]; exact hr.cell h.sub (hu j u hj))
  simp [execOp, Instr.loadAt, Instr.sureAddr, hx, this]
/-- The same out of a chunk of the call's own. -/
theorem Val.ldO (i : Nat) {t T n size p : Nat} {x : Operand} {v u : Value} {xs : List Value} (hA : AG P t false) (hi : L[i]? = some (.own v T size n xs)) (hx : ev R x = .pointer (some ⟨sblk v, soff v + p, none⟩)) (hu : xs[p]? = some u) : Val P (Hp w0 F0 F L) R ⟨d, .load t x, ty, pos, af, g⟩ u := fun w h => by
  simp [execOp, Instr.loadAt, Instr.sureAddr, hx, run_load1 hA ((h.row i hi).cell (Sub.refl _) hu)]
theorem Val.ldOf (i : Nat) {t T n size p j : Nat} {x : Operand} {v u : Value} {xs : List Value} (hA : AG P t false) (hi : L[i]? = some (.own v T size n xs)) (hx : ev R x = .pointer (some ⟨sblk v, soff v + p + j, none⟩)) (hu : xs[p + j]? = some u) : Val P (Hp w0 F0 F L) R ⟨d, .load t x, ty, pos, af, g⟩ u := fun w h => by
  simp [execOp, Instr.loadAt, Instr.sureAddr, hx, run_load1 hA (by have := (h.row i hi).cell (Sub.refl _) hu; rwa [← Nat.add_assoc] at this)]
theorem Val.ldOS (i : Nat) {t T n size bytes sz p : Nat} {z : Value} {x : Operand} {v : Value} {xs cs : List Value} (hA : AG P t true) (hT : TI P t z sz bytes) (hi : L[i]? = some (.own v T size n xs)) (hx : ev R x = .pointer (some ⟨sblk v, soff v + p, none⟩)) (hl : cs.length = sz) (hu : ∀ j u, cs[j]? = some u → xs[p + j]? = some u) : Val P (Hp w0 F0 F L) R ⟨d, .load t x, ty, pos, af, g⟩ (.agg cs.toArray) := fun w h => by
  have := run_loadN (P := P) (w := w) (a := ⟨sblk v, soff v + p, none⟩) hA hT hl (fun j u hj => by rw [add_plain, Nat.add_assoc]; exact (h.row i hi).cell (Sub.refl _) (hu j u hj))
  simp [execOp, Instr.loadAt, Instr.sureAddr, hx, this]
end
end Go.Proofs.YtmiihhbgfijcmaaGreat.K

