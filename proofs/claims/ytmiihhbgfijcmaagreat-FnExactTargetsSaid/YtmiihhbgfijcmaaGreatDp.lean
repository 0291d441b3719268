/- Put together from Dr, Dk, Ds, Dt, Dd, De, Dp. -/
import Derived.Test.YtmiihhbgfijcmaaGreatKh
/- The draws: the reader, texts. -/
namespace Go.Proofs.YtmiihhbgfijcmaaGreat.K
open Go Go.RowKit
set_option linter.unusedVariables false
set_option linter.unusedSimpArgs false
set_option maxRecDepth 20000
def byteV (x : UInt8) : Value := .int .u8 (x.toNat : Int)
def bc (x : UInt8) : List Value := [byteV x]
theorem bc_len (x : UInt8) : (bc x).length = 1 := rfl
def rowB (bs : List UInt8) : List Value := bs.flatMap bc
theorem rowB_len (bs : List UInt8) : (rowB bs).length = bs.length := by rw [rowB, flat_len bc bc_len, Nat.mul_one]
theorem pick_bd {x y k D A1 B1 C1 D1 S1 S2 X : Nat} (hx : x < 256) (hy : y < 256) (hk : k ≤ 1099511627776) (hD : D ≤ k) (h1 : A1 = x * 131) (h2 : B1 = y * 1117) (h3 : C1 = k * 29) (h4 : D1 = D * 53) (h5 : S1 = A1 + B1) (h6 : S2 = S1 + C1) (h7 : X = S2 + D1) : X < 4611686018427387904 := by omega
end Go.Proofs.YtmiihhbgfijcmaaGreat.K



/- The makers of values, their results told as chunks of their own; regions where several operations may come up. -/
namespace Go.Proofs.YtmiihhbgfijcmaaGreat.K
open Go Go.RowKit
set_option linter.unusedVariables false
set_option linter.unusedSimpArgs false
set_option maxRecDepth 20000
section
variable {P : Program} {R : Regs} {n : Nat} {ops : Array Oper} {Q : Post} {w : World} {S : World → Prop} {ds : List Nat} {fuel : Nat} {l : Array Bool}
/-- Whatever operation comes up: each is walked as in a list of its own, and S is shown again. -/
theorem WD.allS (rs : List Nat) (hr : (Region.ready .any ops l == rs) = true) (hne : rs ≠ [])
    (h : ∀ i ∈ rs, ∃ o, ops[i]? = some o ∧ WL P n ops (thn (fun R w' => S w' ∧ WD P n ops Q S ds fuel (l.setIfInBounds i true) R w') Q) [o] R w) : WD P n ops Q S ds (fuel + 1) l R w := fun hd a ha => by
  have hr' : Region.ready .any ops l = rs := by simpa using hr
  refine Last.wpAnyLast_all hr' hne fun j hj => ?_
  obtain ⟨o, hi, hw⟩ := h j hj
  have h1 := hw (by simp only [dsts, List.all_cons, List.all_nil, Bool.and_true]; exact dsts_at hd hi) a ha
  have key : ∀ (K : Act → World → Prop) (Q' : Exit → Act → World → Prop), wpList P ops Q' [o] a w → (∀ a w, Q' .normal a w → K a w) → wpOp P ops Q' j K a w := fun K Q' hl hk => by
    unfold wpList at hl
    unfold wpOp
    simp only [hi]
    split
    · rename_i hw; rw [if_pos hw] at hl; exact hl.imp (Oper.wp_mono fun a w h => hk a w h) id
    · rename_i hw; rw [if_neg hw] at hl; exact hk _ _ hl
  have h2 := key (fun a' w' => (j ∉ ds → S w → S w') ∧ Last.wpAnyLast P .any ops (lift n Q) S ds fuel (l.setIfInBounds j true) a' w') _ h1 (fun a' w' ⟨R', hR, hq⟩ => ⟨fun _ _ => hq.1, hq.2 hd a' hR⟩)
  unfold wpOp at h2 ⊢
  simp only [hi] at h2 ⊢
  split
  · rename_i hw
    rw [if_pos hw] at h2
    rcases h2 with h2 | ⟨h2, a0, w0, h3⟩
    · refine .inl ?_
      unfold Oper.wp at h2 ⊢
      generalize (execOp a.eval o).run P w = r at h2 ⊢
      cases r with
      | ok x w' =>
        cases x <;> simp only [Oper.upon] at h2 ⊢ <;> try exact h2
      | halt x w' => cases x <;> simp only [Oper.upon] at h2 ⊢ <;> exact h2
    · exact .inr ⟨h2, a0, w0, h3⟩
  · rename_i hw
    rw [if_neg hw] at h2
    exact h2
end

/-! ### A value of new atoms -/
def PC (w0 : World) (l : List At) (e : Ending) (w : World) : Prop := ∃ s c, e = .returned (.agg #[s]) ∧ Below w0.heap.size w0 w ∧ Ch.holds w c ∧ (∀ b, c.blk = some b → w0.heap.size ≤ b) ∧ Held c s l.length 4 (rowA l)
section
variable {w0 w w' : World} {F0 F F1 : Fz} {L : List Ch}
theorem PC.of (h : Hp w0 F0 F L w) (i : Nat) {c : Ch} {s : Value} {l : List At} (hi : L[i]? = some c) (hh : Held c s l.length 4 (rowA l)) : PC w0 l (.returned (.agg #[s])) w := ⟨s, c, rfl, h.below, h.holds i _ hi, fun b hb => (h.fresh i c b hi hb).1, hh⟩
theorem Hp.takeC {l : List At} {e : Ending} (h : Hp w0 F0 F L w) (hp : PC w l e w') : ∃ s c, e = .returned (.agg #[s]) ∧ Hp w0 F0 F (L ++ [c]) w' ∧ Held c s l.length 4 (rowA l) := by
  obtain ⟨s, c, rfl, hB, hc, hn, hh⟩ := hp
  exact ⟨s, c, rfl, h.gain c hB hc hn, hh⟩
theorem Hp.freezeLast {c : Ch} {s : Value} {n size : Nat} {xs : List Value} (h : Hp w0 F0 F (L ++ [c]) w) (hh : Held c s n size xs) : ∃ F', Sub F F' ∧ Hp w0 F0 F' L w ∧ FRow F' s n size xs := by
  obtain ⟨F', hs, h', hr⟩ := h.freezeHeld L.length (c := c) (by simp) hh
  refine ⟨F', hs, ?_, hr⟩
  have := h'.keep L.length
  rw [List.set_append_right _ _ (Nat.le_refl _), List.take_left] at this
  exact this
theorem Hp.takeF {l : List At} {e : Ending} (h : Hp w0 F0 F L w) (hp : PC w l e w') : ∃ F' s, e = .returned (.agg #[s]) ∧ Sub F F' ∧ Hp w0 F0 F' L w' ∧ FRow F' s l.length 4 (rowA l) := by
  obtain ⟨s, c, rfl, h, hh⟩ := h.takeC hp
  obtain ⟨F', hs, h, hr⟩ := h.freezeLast hh
  exact ⟨F', s, rfl, hs, h, hr⟩
theorem Held.one {c : Ch} {s : Value} {n size : Nat} {xs : List Value} (hh : Held c s n size xs) (hc : Ch.holds w c) : s.oneCell' = true := (hh (hv w) w hc fun _ _ => rfl).one
/-- Two of the chunks. -/
theorem Hp.two (h : Hp w0 F0 F L w) (i j : Nat) {c d : Ch} (hij : i ≠ j) (hi : L[i]? = some c) (hj : L[j]? = some d) : Hp w0 F0 F [c, d] w :=
  h.reorder (fun k => if k = 0 then i else j) (fun a b ha hb e => by
    simp at ha hb
    by_cases h1 : a = 0 <;> by_cases h2 : b = 0 <;> simp [h1, h2] at e <;> omega) (fun k e he => by
    match k, he with
    | 0, he => simp at he; subst he; exact hi
    | 1, he => simp at he; subst he; exact hj)
end

/-! ### Lists of values -/
structure KR (F : Fz) (ss : List Value) (ess : List (List At)) : Prop where
  len : ss.length = ess.length
  get : ∀ (i : Nat) es, ess[i]? = some es → ∃ s, ss[i]? = some s ∧ FRow F s es.length 4 (rowA es)
theorem KR.mono {F G : Fz} {ss : List Value} {ess : List (List At)} (h : KR F ss ess) (hs : Sub F G) : KR G ss ess := ⟨h.len, fun i es he => by
  obtain ⟨s, h1, h2⟩ := h.get i es he
  exact ⟨s, h1, h2.mono hs⟩⟩
theorem KR.nil {F : Fz} : KR F [] [] := ⟨rfl, fun i es he => by simp at he⟩
theorem KR.snoc {F : Fz} {ss : List Value} {ess : List (List At)} (h : KR F ss ess) {s : Value} {es : List At} (hr : FRow F s es.length 4 (rowA es)) : KR F (ss ++ [s]) (ess ++ [es]) := ⟨by simp [h.len], fun i es' he => by
  by_cases hi : i < ess.length
  · rw [List.getElem?_append_left hi] at he
    obtain ⟨s', h1, h2⟩ := h.get i es' he
    exact ⟨s', by rw [List.getElem?_append_left (by rw [h.len]; exact hi)]; exact h1, h2⟩
  · have h0 : i = ess.length := by
      have := (List.getElem?_eq_some_iff.1 he).1
      simp at this; omega
    subst h0
    rw [List.getElem?_append_right (Nat.le_refl _), Nat.sub_self] at he
    simp at he; subst he
    exact ⟨s, by rw [List.getElem?_append_right (by rw [h.len]; exact Nat.le_refl _), h.len, Nat.sub_self]; rfl, hr⟩⟩
def KB (ess : List (List At)) (B : Nat) : Prop := ∀ es ∈ ess, es ≠ [] ∧ es.length ≤ B
theorem KB.nil {B : Nat} : KB [] B := fun es he => by simp at he
theorem KB.snoc {ess : List (List At)} {B : Nat} (h : KB ess B) {es : List At} (h1 : es ≠ []) (h2 : es.length ≤ B) : KB (ess ++ [es]) B := fun e he => by
  rw [List.mem_append] at he
  rcases he with he | he
  · exact h e he
  · rw [List.mem_singleton.1 he]; exact ⟨h1, h2⟩
theorem KB.flat : ∀ {ess : List (List At)} {B : Nat}, KB ess B → ess.flatten.length ≤ ess.length * B
  | [], B, h => by simp
  | es :: ess, B, h => by
    have h1 := (h es (by simp)).2
    have h2 := KB.flat (ess := ess) (B := B) (fun e he => h e (by simp [he]))
    simp only [List.flatten_cons, List.length_append, List.length_cons, Nat.add_mul, Nat.one_mul]; omega
theorem take_flat {ess : List (List At)} {i : Nat} {es : List At} (he : ess[i]? = some es) : (ess.take (i + 1)).flatten = (ess.take i).flatten ++ es := by
  obtain ⟨hlt, e⟩ := List.getElem?_eq_some_iff.1 he
  rw [List.take_succ_eq_append_getElem hlt, e]; simp
theorem take_flat_le (ess : List (List At)) (i : Nat) : (ess.take i).flatten.length ≤ ess.flatten.length := by
  have : ess.flatten = (ess.take i).flatten ++ (ess.drop i).flatten := by rw [← List.flatten_append, List.take_append_drop]
  rw [this, List.length_append]; omega
theorem len_flat : ∀ {ess : List (List At)}, (∀ es ∈ ess, es ≠ []) → ess.length ≤ ess.flatten.length
  | [], _ => by simp
  | es :: ess, h => by
    have h1 := len_flat (ess := ess) (fun e he => h e (by simp [he]))
    have h2 := List.length_pos_iff.2 (h es (by simp))
    simp only [List.flatten_cons, List.length_append, List.length_cons]; omega
def mkI (w0 : World) (b4 b5 : Nat) (z kv kd : Value) (ess : List (List At)) (m : Nat) (R : Regs) (w : World) : Prop :=
  ∃ (i : Nat) (s : Value), m + i = ess.length ∧ Hp w0 (hv w0) (hv w0) [.box b4 [z] 45, .box b5 [s] 45, .own s 78 4 (ess.take i).flatten.length (rowA (ess.take i).flatten)] w ∧ R 0 = kd ∧ R 1 = kv ∧ R 4 = pt b4 ∧ R 5 = pt b5 ∧ R 6 = .int .i64 (i : Int)
end Go.Proofs.YtmiihhbgfijcmaaGreat.K



/- l5Set: a name is set in the kids of a record; told loosely. -/
namespace Go.Proofs.YtmiihhbgfijcmaaGreat.K
open Go Go.RowKit
set_option linter.unusedVariables false
set_option linter.unusedSimpArgs false
set_option maxRecDepth 20000
section
variable {P : Program} {R : Regs} {w0 : World} {F0 F : Fz} {L : List Ch} {d : Option Nat} {ty : TypeId} {pos : String} {af : Array Edge} {g : Option (Nat × Bool)}
variable {n : Nat} {ops : Array Oper} {Q : Post} {w : World} {rest : List Oper}
/-- A composite literal of two elements of one cell each. -/
theorem WL.bs2c {T e bytes : Nat} {z u v : Value} {x y : Operand} (h : Hp w0 F0 F L w) (ht : P.underlying T = some (.slice e)) (hT : TI P e z 1 bytes) (hu : (ev R x).cells = #[u]) (hv : (ev R y).cells = #[v])
    (k : ∀ b w', Hp w0 F0 F (L ++ [.box b [u, v] e]) w' → WL P n ops Q rest (updO R d (.slice (some ⟨b, 0, none⟩) 2 2)) w') (hw : wantB ops R g = true := by rfl) : WL P n ops Q (⟨d, .buildSlice T 2 #[(0, x), (1, y)], ty, pos, af, g⟩ :: rest) R w := by
  refine WL.val (v := .slice (some ⟨w.heap.size, 0, none⟩) 2 2) (w' := w.alloc (.cells #[u, v] e)) hw ?_ (k _ _ (h.alloc [u, v] e))
  have hz : z.cells.size = 1 := hT.zs
  have hr : (Array.range (2 * 1)).map (fun i => z.cells[i % z.cells.size]!) = #[z.cells[0]!, z.cells[0]!] := by
    have : Array.range (2 * 1) = #[0, 1] := rfl
    rw [this]
    simp [hz]
  simp only [execOp, Instr.buildSlice, Sem.run_bind, run_underlying ht, Result.andThen_ok, hT.sizeOf w, hT.zero w, Sem.run_pure, List.map_toArray, List.map_cons, List.map_nil, hr]
  have h24 : ¬ (2 * 1 > 2 ^ 24) := by omega
  have h1 : ¬ (2 * 1 = 0) := by omega
  simp only [if_neg h24, if_neg h1, Sem.run_pure, Sem.run_bind, Result.andThen_ok, hT.zero w, hr]
  simp [Instr.fill, hu, hv, newRow]
end
def stI (w0 : World) (F : Fz) (kv s : Value) (name : ByteArray) (B b5 : Nat) (j : Nat) (R : Regs) (w : World) : Prop :=
  ∃ (F' : Fz) (ov : Value) (oss : List Value) (oess : List (List At)) (q' : Nat) (done : Bool), Sub F F' ∧ Hp w0 F F' [.box b5 [s] 45, .own ov 45 1 oess.length oss] w ∧ KR F' oss oess ∧ KB oess B ∧ oess.length = 2 * q' ∧ q' ≤ j + (bif done then 1 else 0) ∧
    R 0 = kv ∧ R 1 = .string name ∧ R 5 = pt b5 ∧ R 7 = ov ∧ R 8 = .bool done
def PSet (F : Fz) (w0 : World) (q B : Nat) (e : Ending) (w : World) : Prop :=
  ∃ (F' : Fz) (kv : Value) (ss : List Value) (ess : List (List At)) (q' : Nat), e = .returned kv ∧ Ext F w0 F' w ∧ FRow F' kv ess.length 1 ss ∧ KR F' ss ess ∧ ess.length = 2 * q' ∧ q' ≤ q + 1 ∧ KB ess B
theorem two_one {u v : Value} (hu : u.oneCell' = true) (hv : v.oneCell' = true) : ∀ x ∈ [u, v], x.oneCell' = true := by simp [hu, hv]
end Go.Proofs.YtmiihhbgfijcmaaGreat.K



/- The draws: opening the reader, texts; results of a drawing function. -/
namespace Go.Proofs.YtmiihhbgfijcmaaGreat.K
open Go Go.RowKit
set_option linter.unusedVariables false
set_option linter.unusedSimpArgs false
set_option maxRecDepth 20000
theorem rowB_take (bs : List UInt8) (k : Nat) : (rowB bs).take (k * 1) = rowB (bs.take k) := flat_take bc bc_len bs k
section
variable {w0 w w' : World} {F0 F : Fz} {L : List Ch} {br : Nat} {bv : Value} {p : Int} {bs : List UInt8}
end
end Go.Proofs.YtmiihhbgfijcmaaGreat.K



/- l5Draw: a value drawn; told loosely. -/
namespace Go.Proofs.YtmiihhbgfijcmaaGreat.K
open Go Go.RowKit
set_option linter.unusedVariables false
set_option linter.unusedSimpArgs false
set_option maxRecDepth 20000
section
theorem Val.ixA {P : Program} {S : World → Prop} {R : Regs} {d : Option Nat} {ty : TypeId} {pos : String} {af : Array Edge} {g : Option (Nat × Bool)} {t e n i size bytes : Nat} {z : Value} {x y : Operand} {v : Value} (ht : P.underlying t = some (.slice e)) (hT : TI P e z size bytes) (hx : ev R x = v) (hy : ev R y = .int .i64 (i : Int)) (hv : ∃ c, v = .slice (some ⟨sblk v, soff v, none⟩) n c) (hi : i < n) :
    Val P S R ⟨d, .indexAddr t x y, ty, pos, af, g⟩ (.pointer (some ⟨sblk v, soff v + i * size, none⟩)) := fun w _ => by
  obtain ⟨c, hv⟩ := hv
  generalize sblk v = b at *
  generalize soff v = o at *
  subst hv
  have hlt : (i : Int) < n := by omega
  simp [execOp, Instr.indexAt, asIntOf, hx, hy, run_underlying ht, hT.sizeOf w, hi, add_plain]
end
section
variable {P : Program} {R : Regs} {n : Nat} {ops : Array Oper} {Q : Post} {w : World} {S : World → Prop} {ds : List Nat} {fuel : Nat} {l : Array Bool}
theorem WD.all2 (i j : Nat) {o q : Oper} (hr : (Region.ready .any ops l == [i, j]) = true) (hi : ops[i]? = some o) (hj : ops[j]? = some q)
    (h1 : WL P n ops (thn (fun R w' => S w' ∧ WD P n ops Q S ds fuel (l.setIfInBounds i true) R w') Q) [o] R w)
    (h2 : WL P n ops (thn (fun R w' => S w' ∧ WD P n ops Q S ds fuel (l.setIfInBounds j true) R w') Q) [q] R w) : WD P n ops Q S ds (fuel + 1) l R w :=
  WD.allS [i, j] hr (by simp) (fun k hk => by
    rcases List.mem_cons.1 hk with e | hk
    · subst e; exact ⟨o, hi, h1⟩
    · obtain rfl := List.mem_singleton.1 hk
      exact ⟨q, hj, h2⟩)
end
def gK (K : Int) : Nat → Int
  | 0 => 0
  | i + 1 => gK K i + K
theorem gK_le {K : Int} (h : 0 ≤ K) : ∀ {i j : Nat}, i ≤ j → gK K i ≤ gK K j
  | i, 0, hij => by obtain rfl : i = 0 := by omega
                    exact Int.le_refl _
  | i, j + 1, hij => by
    by_cases e : i = j + 1
    · subst e; exact Int.le_refl _
    · have := gK_le h (i := i) (j := j) (by omega)
      simp only [gK]; omega
theorem gK_pos {K : Int} (h : 0 ≤ K) (i : Nat) : 0 ≤ gK K i := gK_le h (Nat.zero_le i)
def KD : Nat → Int
  | 0 => 20
  | d + 1 => 20 + gK (KD d + 7) 4
theorem KD_pos : ∀ d, 20 ≤ KD d
  | 0 => Int.le_refl _
  | d + 1 => by have := KD_pos d; have := gK_pos (K := KD d + 7) (by omega) 4; simp only [KD]; omega
def BD : Nat → Nat
  | 0 => 1
  | d + 1 => 8 * BD d + 1
theorem BD_pos : ∀ d, 1 ≤ BD d
  | 0 => Nat.le_refl _
  | d + 1 => by simp only [BD]; omega
theorem BD_small : ∀ d, d ≤ 3 → BD d ≤ 1000
  | 0, _ => by decide
  | 1, _ => by decide
  | 2, _ => by decide
  | 3, _ => by decide
theorem get_map {α : Type} (f : α → Value) (l : List α) (i : Nat) (hi : i < l.length) : ∃ a, (l.map f)[i]? = some (f a) := ⟨l[i], by simp [hi]⟩
def intV (n : Int) : Value := .int .i64 n
def drawInts : List Int := [0, 1, -1, 2, 7, -7, 10, 9223372036854775807, -9223372036854775808, -9223372036854775807, 4611686018427387904, 3037000500]
def drawTexts : List ByteArray := [⟨#[45, 48]⟩, ⟨#[45, 49, 50]⟩, ⟨#[57, 50, 50, 51, 51, 55, 50, 48, 51, 54, 56, 53, 52, 55, 55, 53, 56, 48, 56]⟩, ⟨#[45, 57, 50, 50, 51, 51, 55, 50, 48, 51, 54, 56, 53, 52, 55, 55, 53, 56, 48, 56]⟩, ⟨#[43, 49]⟩, ⟨#[97, 32, 98]⟩]
def drawNames : List ByteArray := [⟨#[97]⟩, ⟨#[98]⟩, ⟨#[99, 32, 100]⟩, ⟨#[]⟩, ⟨#[108, 101, 116]⟩, ⟨#[95]⟩]
theorem one_map {α : Type} (f : α → Value) (hf : ∀ a, (f a).oneCell' = true) (l : List α) : ∀ v ∈ l.map f, v.oneCell' = true := fun v hv => by
  obtain ⟨a, _, rfl⟩ := List.mem_map.1 hv
  exact hf a
section
variable {w0 w : World} {F0 F F' : Fz} {L : List Ch} {br : Nat} {bv : Value} {p p' C : Int} {B : Nat} {s : Value} {c : Ch} {es : List At}
end
theorem flat_small {ess : List (List At)} {B : Nat} (h : KB ess B) (hl : ess.length ≤ 8) : ess.flatten.length ≤ 8 * B := Nat.le_trans h.flat (Nat.mul_le_mul_right _ hl)
end Go.Proofs.YtmiihhbgfijcmaaGreat.K



/- l5Edge: a value at a limit; told loosely. -/
namespace Go.Proofs.YtmiihhbgfijcmaaGreat.K
open Go Go.RowKit
set_option linter.unusedVariables false
set_option linter.unusedSimpArgs false
set_option maxRecDepth 20000
section
variable {w0 w w' : World} {F0 F : Fz} {br : Nat} {bv : Value} {p : Int} {bs : List UInt8}
/-- The middle ones are let go. -/
theorem Hp.skipMid {A B : List Ch} {c : Ch} (h : Hp w0 F0 F (A ++ B ++ [c]) w) : Hp w0 F0 F (A ++ [c]) w :=
  h.reorder (fun k => if k < A.length then k else A.length + B.length) (fun a b ha hb e => by
    simp at ha hb
    split at e <;> split at e <;> omega) (fun k e he => by
    by_cases hk : k < A.length
    · simp only [if_pos hk]
      rw [List.getElem?_append_left hk] at he
      rw [List.append_assoc, List.getElem?_append_left hk]; exact he
    · simp only [if_neg hk]
      have : k = A.length := by
        have := (List.getElem?_eq_some_iff.1 he).1
        simp at this; omega
      subst this
      rw [List.getElem?_append_right (Nat.le_refl _), Nat.sub_self] at he
      rw [List.getElem?_append_right (by simp), List.length_append, Nat.sub_self]; exact he)
end
theorem KR.one {F : Fz} {s : Value} {es : List At} (h : FRow F s es.length 4 (rowA es)) : KR F [s] [es] := KR.nil.snoc h
end Go.Proofs.YtmiihhbgfijcmaaGreat.K



/- l5Spoil: a value spoilt; l5Any, DrawOrder; told loosely. -/
namespace Go.Proofs.YtmiihhbgfijcmaaGreat.K
open Go Go.RowKit
set_option linter.unusedVariables false
set_option linter.unusedSimpArgs false
set_option maxRecDepth 20000
theorem W.cutT {P : Program} {n : Nat} {x : Code} {K : Regs → World → Prop} {Q : Post} {R : Regs} {w : World} (J : Regs → World → Prop) (h : W P n x (thn J Q) R w) (k : ∀ R w, J R w → K R w) : W P n x (thn K Q) R w :=
  h.mono fun e R w hq => by cases e <;> first | exact k R w hq | exact hq
section
variable {P : Program} {R : Regs} {w0 w : World} {F0 F F' : Fz} {L : List Ch} {d : Option Nat} {ty : TypeId} {pos : String} {af : Array Edge} {g : Option (Nat × Bool)}
theorem Val.faA {S : World → Prop} {s f off b o : Nat} {x : Operand} (hf : FO P s f off) (hx : ev R x = .pointer (some ⟨b, o, none⟩)) : Val P S R ⟨d, .fieldAddr s x f, ty, pos, af, g⟩ (.pointer (some ⟨b, o + off, none⟩)) := fun w _ => by
  have h := hf ⟨b, o, none⟩ w
  rw [add_plain] at h
  simp only [execOp, hx, Sem.run_bind, h, Result.andThen_ok, Sem.run_pure]
theorem held_pre {b T n size c : Nat} {cs xs : List Value} (hc : n ≤ c) (hm : n ≤ 9223372036854775807) (hl : xs.length = n * size) (hx : cs.take (n * size) = xs) : Held (.box b cs T) (.slice (some ⟨b, 0, none⟩) n c) n size xs := fun G w hw hb =>
  ⟨hl, hm, ⟨_, c, rfl, hc⟩, .inr ⟨b, 0, c, cs.toArray, T, (0, 0), rfl, (hb b rfl).trans hw, fun j u hu => by
    rw [Nat.zero_add]
    rw [← hx, List.getElem?_take] at hu
    split at hu
    · simpa using hu
    · cases hu⟩⟩
variable {br : Nat} {bv : Value} {p p' C : Int} {B : Nat} {s : Value} {c : Ch} {es : List At}
end
theorem rowA_take (es : List At) (k : Nat) : (rowA es).take (k * 4) = rowA (es.take k) := flat_take At.cells At.cells_len es k
theorem rowA_drop (es : List At) (k : Nat) : (rowA es).drop (k * 4) = rowA (es.drop k) := flat_drop At.cells At.cells_len es k
theorem set_row {es : List At} {cs : List Value} {k : Nat} {a' : At} (hk : k < es.length) (hl : es.length * 4 ≤ cs.length) (ht : cs.take (es.length * 4) = rowA es) : (cs.take (k * 4) ++ a'.cells ++ cs.drop (k * 4 + 4)).take (es.length * 4) = rowA (es.take k ++ [a'] ++ es.drop (k + 1)) := by
  have h1 : cs.take (k * 4) = rowA (es.take k) := by
    rw [← rowA_take, ← ht, List.take_take, Nat.min_eq_left (by omega)]
  have h2 : (cs.drop (k * 4 + 4)).take (es.length * 4 - (k * 4 + 4)) = rowA (es.drop (k + 1)) := by
    rw [← rowA_drop, ← ht, show (k + 1) * 4 = k * 4 + 4 by omega, List.drop_take]
  have hlen : (cs.take (k * 4) ++ a'.cells).length = k * 4 + 4 := by
    rw [List.length_append, List.length_take, At.cells_len]; omega
  rw [List.take_append, hlen, h2, List.take_of_length_le (by rw [hlen]; omega), h1, rowA_app, rowA_app]
  simp [rowA]
theorem Val.ex {P : Program} {R : Regs} {o : Oper} {v : Value} {α : Type} {f : α → World → Prop} (h : ∀ x, Val P (f x) R o v) : Val P (fun w => ∃ x, f x w) R o v := fun w ⟨x, hx⟩ => h x w hx
theorem KD3 : KD 3 ≤ 10000 := by decide
theorem fin2CC {P : Program} {n : Nat} {fn : Func} {K : Ending → World → Prop} {R : Regs} {w0 w : World} {F0 F : Fz} {L : List Ch} (h : Hp w0 F0 F L w) (i j : Nat) {t u T b c : Nat} {cs ds : List Value} {z : Value} {size bytes : Nat} (hr : fn.results = #[.cell t T, .cell u T]) (hp : R t = .pointer (some ⟨b, 0, none⟩)) (hq : R u = .pointer (some ⟨c, 0, none⟩)) (hi : L[i]? = some (.box b cs T)) (hj : L[j]? = some (.box c ds T)) (hA : AG P T true) (hT : TI P T z size bytes) (hl : cs.length = size) (hm : ds.length = size) (k : K (.returned (.tuple #[.agg cs.toArray, .agg ds.toArray])) w) : fin P n fn K .ret R w := by
  have h1 := run_loadN (P := P) (w := w) (a := ⟨b, 0, none⟩) hA hT hl (fun j v hj => by rw [add_plain, Nat.zero_add]; exact box_cell h hi hj)
  have h2 := run_loadN (P := P) (w := w) (a := ⟨c, 0, none⟩) hA hT hm (fun j' v hj' => by rw [add_plain, Nat.zero_add]; exact box_cell h hj hj')
  unfold fin
  exact ⟨_, fun a ha => by simp [results, hr, ha.get, hp, hq, asAddr, h1, h2], k⟩
def PDO (F : Fz) (w0 : World) (e : Ending) (w : World) : Prop := ∃ F' sa sb ea eb, e = .returned (.tuple #[.agg #[sa], .agg #[sb]]) ∧ Ext F w0 F' w ∧ FRow F' sa ea.length 4 (rowA ea) ∧ FRow F' sb eb.length 4 (rowA eb) ∧ ea.length ≤ 1200 ∧ eb.length ≤ 1200
end Go.Proofs.YtmiihhbgfijcmaaGreat.K



