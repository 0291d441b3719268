/- l5Draw: a value drawn; told loosely. -/
import Derived.Test.YtmiihhbgfijcmaaDt
namespace Go.Proofs.Ytmiihhbgfijcmaa.K
open Go Go.RowKit
set_option linter.unusedVariables false
set_option linter.unusedSimpArgs false
set_option maxRecDepth 20000
theorem C82 : CF Try.prog 82 := ⟨_, Try.func82, rfl, rfl⟩
section
theorem Val.ixA {P : Program} {S : World → Prop} {R : Regs} {d : Option Nat} {ty : TypeId} {pos : String} {af : Array Edge} {g : Option (Nat × Bool)} {t e n i size bytes : Nat} {z : Value} {x y : Operand} {v : Value} (ht : P.underlying t = some (.slice e)) (hT : TI P e z size bytes) (hx : ev R x = v) (hy : ev R y = .int .i64 (i : Int)) (hv : ∃ c, v = .slice (some ⟨sblk v, soff v, none⟩) n c) (hi : i < n) :
    Val P S R ⟨d, .indexAddr t x y, ty, pos, af, g⟩ (.pointer (some ⟨sblk v, soff v + i * size, none⟩)) := fun w _ => by
  obtain ⟨c, hv⟩ := hv
  generalize sblk v = b at *
  generalize soff v = o at *
  subst hv
  have hlt : (i : Int) < n := by omega
  simp [execOp, Instr.indexAt, asIntOf, hx, hy, run_underlying ht, hT.sizeOf w, hi, add_plain]
end
section
variable {P : Program} {R : Regs} {n : Nat} {ops : Array Oper} {Q : Post} {w : World} {S : World → Prop} {ds : List Nat} {fuel : Nat} {l : Array Bool}
theorem WD.all2 (i j : Nat) {o q : Oper} (hr : (Region.ready .any ops l == [i, j]) = true) (hi : ops[i]? = some o) (hj : ops[j]? = some q)
    (h1 : WL P n ops (thn (fun R w' => S w' ∧ WD P n ops Q S ds fuel (l.setIfInBounds i true) R w') Q) [o] R w)
    (h2 : WL P n ops (thn (fun R w' => S w' ∧ WD P n ops Q S ds fuel (l.setIfInBounds j true) R w') Q) [q] R w) : WD P n ops Q S ds (fuel + 1) l R w :=
  WD.allS [i, j] hr (by simp) (fun k hk => by
    rcases List.mem_cons.1 hk with e | hk
    · subst e; exact ⟨o, hi, h1⟩
    · obtain rfl := List.mem_singleton.1 hk
      exact ⟨q, hj, h2⟩)
end
def gK (K : Int) : Nat → Int
  | 0 => 0
  | i + 1 => gK K i + K
theorem gK_le {K : Int} (h : 0 ≤ K) : ∀ {i j : Nat}, i ≤ j → gK K i ≤ gK K j
  | i, 0, hij => by obtain rfl : i = 0 := by omega
                    exact Int.le_refl _
  | i, j + 1, hij => by
    by_cases e : i = j + 1
    · subst e; exact Int.le_refl _
    · have := gK_le h (i := i) (j := j) (by omega)
      simp only [gK]; omega
theorem gK_pos {K : Int} (h : 0 ≤ K) (i : Nat) : 0 ≤ gK K i := gK_le h (Nat.zero_le i)
def KD : Nat → Int
  | 0 => 20
  | d + 1 => 20 + gK (KD d + 7) 4
theorem KD_pos : ∀ d, 20 ≤ KD d
  | 0 => Int.le_refl _
  | d + 1 => by have := KD_pos d; have := gK_pos (K := KD d + 7) (by omega) 4; simp only [KD]; omega
def BD : Nat → Nat
  | 0 => 1
  | d + 1 => 8 * BD d + 1
theorem BD_pos : ∀ d, 1 ≤ BD d
  | 0 => Nat.le_refl _
  | d + 1 => by simp only [BD]; omega
theorem BD_small : ∀ d, d ≤ 3 → BD d ≤ 1000
  | 0, _ => by decide
  | 1, _ => by decide
  | 2, _ => by decide
  | 3, _ => by decide
theorem get_map {α : Type} (f : α → Value) (l : List α) (i : Nat) (hi : i < l.length) : ∃ a, (l.map f)[i]? = some (f a) := ⟨l[i], by simp [hi]⟩
def intV (n : Int) : Value := .int .i64 n
def drawInts : List Int := [0, 1, -1, 2, 7, -7, 10, 9223372036854775807, -9223372036854775808, -9223372036854775807, 4611686018427387904, 3037000500]
def drawTexts : List ByteArray := [⟨#[45, 48]⟩, ⟨#[45, 49, 50]⟩, ⟨#[57, 50, 50, 51, 51, 55, 50, 48, 51, 54, 56, 53, 52, 55, 55, 53, 56, 48, 56]⟩, ⟨#[45, 57, 50, 50, 51, 51, 55, 50, 48, 51, 54, 56, 53, 52, 55, 55, 53, 56, 48, 56]⟩, ⟨#[43, 49]⟩, ⟨#[97, 32, 98]⟩]
def drawNames : List ByteArray := [⟨#[97]⟩, ⟨#[98]⟩, ⟨#[99, 32, 100]⟩, ⟨#[]⟩, ⟨#[108, 101, 116]⟩, ⟨#[95]⟩]
theorem one_map {α : Type} (f : α → Value) (hf : ∀ a, (f a).oneCell' = true) (l : List α) : ∀ v ∈ l.map f, v.oneCell' = true := fun v hv => by
  obtain ⟨a, _, rfl⟩ := List.mem_map.1 hv
  exact hf a
section
variable {w0 w : World} {F0 F F' : Fz} {L : List Ch} {br : Nat} {bv : Value} {p p' C : Int} {B : Nat} {s : Value} {c : Ch} {es : List At}
theorem PR.mk' (h : Hp w0 F0 F L w) (h0 : Sub F0 F') (hs : Sub F' F) (i j : Nat) (hij : i ≠ j) (hi : L[i]? = some (rd br bv p')) (hj : L[j]? = some c) (hh : Held c s es.length 4 (rowA es)) (h1 : p ≤ p') (h2 : p' ≤ p + C) (h3 : es ≠ []) (h4 : es.length ≤ B) : PR w0 F0 F' br bv p C B (.returned (.agg #[s])) w :=
  ⟨s, es, c, p', rfl, (h.weak h0 hs).two i j hij hi hj, hh, h1, h2, h3, h4⟩
end
/-- The kids of a list under way. -/
def dlI (w0 : World) (F0 F : Fz) (br b4 : Nat) (bv : Value) (p : Int) (d n : Nat) (same : Int) (i : Nat) (R : Regs) (w : World) : Prop :=
  ∃ (F' : Fz) (kv : Value) (ss : List Value) (ess : List (List At)) (p' : Int), Sub F F' ∧ Hp w0 F0 F' [rd br bv p', .box b4 [.slice none 0 0] 42, .own kv 42 1 ess.length ss] w ∧ KR F' ss ess ∧ KB ess (BD d) ∧ ess.length = i ∧ p ≤ p' ∧ p' ≤ p + 10 + gK (KD d + 7) i ∧
    R 0 = pt br ∧ R 1 = .int .i64 ((d + 1 : Nat) : Int) ∧ R 4 = pt b4 ∧ R 6 = kv ∧ R 7 = .int .i64 (n : Int) ∧ R 8 = .int .i64 same ∧ R 9 = .int .i64 (i : Int)
def drI (w0 : World) (F0 F : Fz) (br b4 : Nat) (bv : Value) (p : Int) (d n : Nat) (i : Nat) (R : Regs) (w : World) : Prop :=
  ∃ (F' : Fz) (kv : Value) (ss : List Value) (ess : List (List At)) (q : Nat) (p' : Int), Sub F F' ∧ Hp w0 F0 F' [rd br bv p', .box b4 [.slice none 0 0] 42] w ∧ FRow F' kv ess.length 1 ss ∧ KR F' ss ess ∧ KB ess (BD d) ∧ ess.length = 2 * q ∧ q ≤ i ∧ p ≤ p' ∧ p' ≤ p + 10 + gK (KD d + 7) i ∧
    R 0 = pt br ∧ R 1 = .int .i64 ((d + 1 : Nat) : Int) ∧ R 4 = pt b4 ∧ R 6 = kv ∧ R 7 = .int .i64 (n : Int) ∧ R 10 = .int .i64 (i : Int)
theorem flat_small {ess : List (List At)} {B : Nat} (h : KB ess B) (hl : ess.length ≤ 8) : ess.flatten.length ≤ 8 * B := Nat.le_trans h.flat (Nat.mul_le_mul_right _ hl)
set_option maxHeartbeats 8000000 in
theorem l5Draw_calls : ∀ (d : Nat), d ≤ 3 → ∀ {w0 w : World} {F0 F : Fz} {br : Nat} {bv : Value} {p : Int} {bs : List UInt8} (h : Hp w0 F0 F [rd br bv p] w) (hr : FRow F bv bs.length 1 (rowB bs)) (hl : bs.length ≤ 2000) (hp : 0 ≤ p ∧ p + KD d ≤ 1099511600000),
    Calls Try.prog 82 #[pt br, .int .i64 (d : Int)] w (PR w0 F0 F br bv p (KD d) (BD d)) := by
  intro d
  induction d using Nat.strongRecOn with
  | ind d ih =>
  intro hd w0 w F0 F br bv p bs h hr hl hp
  have hK := KD_pos d
  have hBp := BD_pos d
  have hBs := BD_small d hd
  refine calls 101 Try.func82 rfl rfl rfl ?_
  have h0F := h.ext
  refine W.seq (W.region rfl ?_)
  refine WL.alloc h T42 (fun b4 w h => ?_)
  refine WL.nil ?_
  refine W.seq (W.region rfl ?_)
  refine WL.p h Val.mv ?_
  refine WL.call C57 (args := [pt br, .int .i64 8]) rfl ((pickL h 0 rfl hr hl (by omega) 8 (by omega)).mono ?_)
  rintro e w' ⟨r, rfl, h, hr1, hr2⟩
  refine ⟨_, rfl, ?_⟩
  refine WL.p h Val.as ?_
  refine WL.nil ?_
  have hr2 := hr2 (by omega)
  refine W.cut (fun R w => ∃ k : Int, Hp w0 F0 F [rd br bv (p + 1), .box b4 [.slice none 0 0] 42] w ∧ R 0 = pt br ∧ R 1 = .int .i64 (d : Int) ∧ R 4 = pt b4 ∧ R 5 = .int .i64 k ∧ 0 ≤ k ∧ (d = 0 → k < 5)) ?_ ?_
  · refine W.seq (W.region rfl ?_)
    refine WL.p h Val.mv ?_
    refine WL.p h (Val.le (b := 0) rfl rfl) ?_
    refine WL.dec (fun c1 => ?_) (fun c1 => ?_)
    · refine WL.nil ?_
      refine W.condT rfl ?_
      refine W.region rfl ?_
      refine WL.p h Val.mv ?_
      refine WL.p h (Val.rem (a := r) (b := 5) rfl rfl (by decide)) ?_
      refine WL.p h Val.as ?_
      refine WL.nil ?_
      refine ⟨_, h, rfl, rfl, rfl, rfl, ?_, ?_⟩
      · rw [Int.tmod_eq_emod_of_nonneg (by omega)]; exact Int.emod_nonneg _ (by omega)
      · intro _; rw [Int.tmod_eq_emod_of_nonneg (by omega)]; exact Int.emod_lt_of_pos _ (by omega)
    · refine WL.nil ?_
      refine W.condF rfl ?_
      refine W.skip ?_
      exact ⟨r, h, rfl, rfl, rfl, rfl, by omega, fun e => by omega⟩
  clear h
  rintro R w ⟨k, h, h0, h1, h4, h5, hk0, hkd⟩
  refine W.seq (W.seq (W.region rfl ?_))
  refine WL.p h Val.mv ?_
  refine WL.nil ?_
  refine W.block ?_
  refine W.seq (W.region rfl ?_)
  refine WL.p h (Val.eq (a := k) (b := 0) h5 rfl) ?_
  refine WL.dec (fun c0 => ?_) (fun c0 => ?_)
  · refine WL.p h Val.as ?_
    refine WL.nil ?_
    refine W.condT rfl ?_
    refine W.seq (W.region rfl ?_)
    refine WL.call C100 (args := []) rfl ((l5None_new w).mono ?_)
    intro e w' hp'
    obtain ⟨s, c, rfl, h, hh⟩ := h.takeC hp'
    refine ⟨_, rfl, ?_⟩
    refine WL.stS 1 h rfl T42 h4 (vs := [s]) rfl (one1 (hh.one (h.holds 2 _ rfl))) rfl rfl (fun w h => ?_)
    refine WL.nil ?_
    refine W.ret ?_
    exact finBox h 1 rfl h4 rfl A42 T42 rfl (PR.mk' h h0F (Sub.refl _) 0 2 (by decide) rfl rfl hh (by omega) (by omega) (by simp) hBp)
  refine WL.p h Val.as ?_
  refine WL.nil ?_
  refine W.condF rfl ?_
  refine W.seq (W.region rfl ?_)
  refine WL.p h (Val.eq (a := k) (b := 1) h5 rfl) ?_
  refine WL.dec (fun c1 => ?_) (fun c1 => ?_)
  · refine WL.p h Val.as ?_
    refine WL.nil ?_
    refine W.condT rfl ?_
    refine W.seq (W.region rfl ?_)
    refine WL.p h Val.mv ?_
    refine WL.call C57 (args := [pt br, .int .i64 2]) (congrArg (fun x => [x, Value.int .i64 2]) h0) ((pickL h 0 rfl hr hl (by omega) 2 (by omega)).mono ?_)
    rintro e w' ⟨x, rfl, h, hx1, hx2⟩
    refine ⟨_, rfl, ?_⟩
    refine WL.p h (Val.eq (a := x) (b := 0) rfl rfl) ?_
    refine WL.call C47 (args := [.bool (decide (x = 0))]) rfl ((l5Bool_new w' _).mono ?_)
    intro e w' hp'
    obtain ⟨s, c, rfl, h, hh⟩ := h.takeC hp'
    refine ⟨_, rfl, ?_⟩
    refine WL.stS 1 h rfl T42 h4 (vs := [s]) rfl (one1 (hh.one (h.holds 2 _ rfl))) rfl rfl (fun w h => ?_)
    refine WL.nil ?_
    refine W.ret ?_
    exact finBox h 1 rfl h4 rfl A42 T42 rfl (PR.mk' h h0F (Sub.refl _) 0 2 (by decide) rfl rfl hh (by omega) (by omega) (by simp) hBp)
  refine WL.p h Val.as ?_
  refine WL.nil ?_
  refine W.condF rfl ?_
  refine W.cut (fun R w => ∃ t : Bool, Hp w0 F0 F [rd br bv (p + 1), .box b4 [.slice none 0 0] 42] w ∧ R 0 = pt br ∧ R 1 = .int .i64 (d : Int) ∧ R 4 = pt b4 ∧ R 5 = .int .i64 k ∧ R 17 = .int .i64 k ∧ R 27 = .bool t ∧ (t = false → k ≠ 2 ∧ k ≠ 3)) ?_ ?_
  · refine W.seq (W.region rfl ?_)
    refine WL.p h (Val.eq (a := k) (b := 2) h5 rfl) ?_
    refine WL.dec (fun c2 => ?_) (fun c2 => ?_)
    · refine WL.p h Val.as ?_
      refine WL.nil ?_
      refine W.condT rfl ?_
      refine W.skip ?_
      exact ⟨true, h, h0, h1, h4, h5, h5, rfl, by simp⟩
    · refine WL.p h Val.as ?_
      refine WL.nil ?_
      refine W.condF rfl ?_
      refine W.region rfl ?_
      refine WL.p h (Val.eq (a := k) (b := 3) h5 rfl) ?_
      refine WL.p h Val.as ?_
      refine WL.nil ?_
      exact ⟨_, h, h0, h1, h4, h5, h5, rfl, fun e => ⟨c2, by simpa using e⟩⟩
  clear h h0 h1 h4 h5
  rintro R w ⟨t, h, h0, h1, h4, h5, h17, h27, ht⟩
  cases t with
  | true =>
    refine W.condT h27 ?_
    refine W.seq (W.region rfl ?_)
    refine WL.bsN h Try.underlying148 T2 (vs := drawInts.map intV) rfl rfl (by decide) (one_map _ (fun _ => rfl) _) (fun b7 w h => ?_)
    refine WL.p h Val.mv ?_
    refine WL.call C57 (args := [pt br, .int .i64 12]) (congrArg (fun x => [x, Value.int .i64 12]) h0) ((pickL h 0 rfl hr hl (by omega) 12 (by omega)).mono ?_)
    rintro e w' ⟨x, rfl, h, hx1, hx2⟩
    refine ⟨_, rfl, ?_⟩
    have hx2 := hx2 (by omega)
    obtain ⟨x, rfl⟩ : ∃ y : Nat, x = y := ⟨x.toNat, by omega⟩
    obtain ⟨nn, hnn⟩ := get_map intV drawInts x (by show x < 12; omega)
    refine WL.p h (Val.ix (i := x) (n := 12) Try.underlying148 T2 rfl rfl ⟨_, rfl⟩ (by omega)) ?_
    refine WL.p h (Val.ld 2 A2 rfl rfl (v := intV nn) (by show (drawInts.map intV)[0 + x * 1]? = _; rw [Nat.zero_add, Nat.mul_one]; exact hnn)) ?_
    refine WL.call C50 (args := [.int .i64 nn]) rfl ((l5Int_new w' _).mono ?_)
    intro e w' hp'
    obtain ⟨s, c, rfl, h, hh⟩ := h.takeC hp'
    refine ⟨_, rfl, ?_⟩
    refine WL.stS 1 h rfl T42 h4 (vs := [s]) rfl (one1 (hh.one (h.holds 3 _ rfl))) rfl rfl (fun w h => ?_)
    refine WL.nil ?_
    refine W.ret ?_
    exact finBox h 1 rfl h4 rfl A42 T42 rfl (PR.mk' h h0F (Sub.refl _) 0 3 (by decide) rfl rfl hh (by omega) (by omega) (by simp) hBp)
  | false =>
  refine W.condF h27 ?_
  refine W.seq (W.region rfl ?_)
  refine WL.p h (Val.eq (a := k) (b := 4) h17 rfl) ?_
  refine WL.dec (fun c4 => ?_) (fun c4 => ?_)
  · refine WL.p h Val.as ?_
    refine WL.nil ?_
    refine W.condT rfl ?_
    refine W.seq (W.seq (W.region rfl ?_))
    refine WL.p h Val.mv ?_
    refine WL.call C57 (args := [pt br, .int .i64 16]) (congrArg (fun x => [x, Value.int .i64 16]) h0) ((pickL h 0 rfl hr hl (by omega) 16 (by omega)).mono ?_)
    rintro e w' ⟨x, rfl, h, hx1, hx2⟩
    refine ⟨_, rfl, ?_⟩
    refine WL.p h (Val.eq (a := x) (b := 0) rfl rfl) ?_
    refine WL.dec (fun c5 => ?_) (fun c5 => ?_)
    · refine WL.nil ?_
      refine W.condT rfl ?_
      refine W.seq (W.region rfl ?_)
      refine WL.p h Val.mv ?_
      refine WL.call C57 (args := [pt br, .int .i64 3]) (congrArg (fun x => [x, Value.int .i64 3]) h0) ((pickL h 0 rfl hr hl (by omega) 3 (by omega)).mono ?_)
      rintro e w' ⟨y, rfl, h, hy1, hy2⟩
      refine ⟨_, rfl, ?_⟩
      have hy2 := hy2 (by omega)
      refine WL.p h (Val.subi (a := 1000) (b := y) (c := 1000 - y) rfl rfl (by omega)) ?_
      refine WL.call C101 (args := [.string ⟨#[116]⟩, .int .i64 (1000 - y)]) rfl ((l1Many_calls F _ h.sub ⟨#[116]⟩ (1000 - y) rfl (by omega)).mono ?_)
      rintro e w' ⟨tt, rfl, hE⟩
      have h := h.call hE
      refine ⟨_, rfl, ?_⟩
      refine WL.call C86 (args := [.string tt]) rfl ((l5Text_new w' tt).mono ?_)
      intro e w' hp'
      obtain ⟨s, c, rfl, h, hh⟩ := h.takeC hp'
      refine ⟨_, rfl, ?_⟩
      refine WL.stS 1 h rfl T42 h4 (vs := [s]) rfl (one1 (hh.one (h.holds 2 _ rfl))) rfl rfl (fun w h => ?_)
      refine WL.nil ?_
      refine W.ret ?_
      exact finBox h 1 rfl h4 rfl A42 T42 rfl (PR.mk' h h0F (Sub.refl _) 0 2 (by decide) rfl rfl hh (by omega) (by omega) (by simp) hBp)
    refine WL.nil ?_
    refine W.condF rfl ?_
    refine W.skip ?_
    refine W.seq (W.region rfl ?_)
    refine WL.p h Val.mv ?_
    refine WL.call C102 (args := [pt br]) (congrArg (fun x => [x]) h0) ((l1DrawText_calls h 0 rfl hr hl (by omega)).mono ?_)
    rintro e w' ⟨tt, p2, rfl, h, hp21, hp22⟩
    refine ⟨_, rfl, ?_⟩
    refine WL.bsN h Try.underlying24 T9 (vs := (tt :: drawTexts).map Value.string) rfl rfl (by decide) (one_map _ (fun _ => rfl) _) (fun b7 w h => ?_)
    refine WL.p h Val.mv ?_
    refine WL.call C57 (args := [pt br, .int .i64 7]) (congrArg (fun x => [x, Value.int .i64 7]) h0) ((pickL h 0 rfl hr hl (by omega) 7 (by omega)).mono ?_)
    rintro e w' ⟨x, rfl, h, hx1, hx2⟩
    refine ⟨_, rfl, ?_⟩
    have hx2 := hx2 (by omega)
    obtain ⟨x, rfl⟩ : ∃ y : Nat, x = y := ⟨x.toNat, by omega⟩
    obtain ⟨nn, hnn⟩ := get_map Value.string (tt :: drawTexts) x (by show x < 7; omega)
    refine WL.p h (Val.ix (i := x) (n := 7) Try.underlying24 T9 rfl rfl ⟨_, rfl⟩ (by omega)) ?_
    refine WL.p h (Val.ld 2 A9 rfl rfl (v := Value.string nn) (by show ((tt :: drawTexts).map Value.string)[0 + x * 1]? = _; rw [Nat.zero_add, Nat.mul_one]; exact hnn)) ?_
    refine WL.call C86 (args := [.string nn]) rfl ((l5Text_new w' nn).mono ?_)
    intro e w' hp'
    obtain ⟨s, c, rfl, h, hh⟩ := h.takeC hp'
    refine ⟨_, rfl, ?_⟩
    refine WL.stS 1 h rfl T42 h4 (vs := [s]) rfl (one1 (hh.one (h.holds 3 _ rfl))) rfl rfl (fun w h => ?_)
    refine WL.nil ?_
    refine W.ret ?_
    exact finBox h 1 rfl h4 rfl A42 T42 rfl (PR.mk' h h0F (Sub.refl _) 0 3 (by decide) rfl rfl hh (by omega) (by omega) (by simp) hBp)
  refine WL.p h Val.as ?_
  refine WL.nil ?_
  refine W.condF rfl ?_
  refine W.skip ?_
  cases d with
  | zero => exact absurd (hkd rfl) (by have := ht rfl; omega)
  | succ d =>
  have hKd := KD_pos d
  have hBd := BD_pos d
  have hg4 : KD (d + 1) = 20 + gK (KD d + 7) 4 := rfl
  have hbd : BD (d + 1) = 8 * BD d + 1 := rfl
  have hgl : ∀ {i : Nat}, i < 4 → gK (KD d + 7) i + (KD d + 7) ≤ gK (KD d + 7) 4 := fun {i} hi => gK_le (K := KD d + 7) (i := i + 1) (by omega) hi
  have hgs : ∀ i : Nat, gK (KD d + 7) (i + 1) = gK (KD d + 7) i + (KD d + 7) := fun _ => rfl
  refine W.seq (W.region rfl ?_)
  refine WL.bs0 h Try.underlying102 T42 (fun b6 w h => ?_)
  refine WL.p h Val.as ?_
  refine WL.nil ?_
  refine W.seq (W.region rfl ?_)
  refine WL.p h Val.mv ?_
  refine WL.call C57 (args := [pt br, .int .i64 5]) (congrArg (fun x => [x, Value.int .i64 5]) h0) ((pickL h 0 rfl hr hl (by omega) 5 (by omega)).mono ?_)
  rintro e w' ⟨n, rfl, h, hn1, hn2⟩
  refine ⟨_, rfl, ?_⟩
  have hn2 := hn2 (by omega)
  obtain ⟨n, rfl⟩ : ∃ y : Nat, n = y := ⟨n.toNat, by omega⟩
  refine WL.p h Val.as ?_
  refine WL.nil ?_
  refine W.seq (W.seq (W.region rfl ?_))
  refine WL.p h Val.mv ?_
  refine WL.p h (Val.lt (b := 7) h5 rfl) ?_
  refine WL.dec (fun c7 => ?_) (fun c7 => ?_)
  · refine WL.nil ?_
    refine W.condT rfl ?_
    refine W.seq (W.region rfl ?_)
    refine WL.p h Val.mv ?_
    refine WL.call C57 (args := [pt br, .int .i64 2]) (congrArg (fun x => [x, Value.int .i64 2]) h0) ((pickL h 0 rfl hr hl (by omega) 2 (by omega)).mono ?_)
    rintro e w' ⟨same, rfl, h, hsa, hsb⟩
    refine ⟨_, rfl, ?_⟩
    refine WL.p h Val.as ?_
    refine WL.nil ?_
    refine W.seq (W.seq (W.region rfl ?_))
    refine WL.p h Val.as ?_
    refine WL.nil ?_
    refine W.block ?_
    refine W.loop (fun m R w => ∃ i, m + i = n ∧ dlI w0 F0 F br b4 bv p d n same i R w) n ?_ (fun m R w hI => ?_)
    · exact ⟨0, by omega, F, _, [], [], _, Sub.refl _, h, KR.nil, KB.nil, rfl, by omega, by simp only [gK]; omega, h0, h1, h4, rfl, rfl, rfl, rfl⟩
    clear h h0 h1 h4 h5 h17 h27
    obtain ⟨i, hm, F', kv, ss, ess, p', hs1, h, hko, hbo, hlo, hp1, hp2, h0, h1, h4, h6, h7, h8, h9⟩ := hI
    refine W.seq (W.seq (W.region rfl ?_))
    refine WL.p h Val.mv ?_
    refine WL.p h Val.mv ?_
    refine WL.p h (Val.lt h9 h7) ?_
    refine WL.dec (fun c8 => ?_) (fun c8 => ?_)
    · have hgi := hgl (i := i) (by omega)
      refine WL.nil ?_
      refine W.condT rfl ?_
      refine W.skip ?_
      refine W.cut (fun R w => ∃ (F2 : Fz) (kv' : Value) (ss' : List Value) (ess' : List (List At)) (p2 : Int), Sub F F2 ∧ Hp w0 F0 F2 [rd br bv p2, .box b4 [.slice none 0 0] 42, .own kv' 42 1 ess'.length ss'] w ∧ KR F2 ss' ess' ∧ KB ess' (BD d) ∧ ess'.length = i + 1 ∧ p ≤ p2 ∧ p2 ≤ p + 10 + gK (KD d + 7) (i + 1) ∧ R 0 = pt br ∧ R 1 = .int .i64 ((d + 1 : Nat) : Int) ∧ R 4 = pt b4 ∧ R 6 = kv' ∧ R 7 = .int .i64 (n : Int) ∧ R 8 = .int .i64 same ∧ R 9 = .int .i64 (i : Int)) ?_ ?_
      · refine W.block ?_
        refine W.seq (W.region rfl ?_)
        refine WL.p h Val.mv ?_
        refine WL.p h (Val.eq (b := 0) h8 rfl) ?_
        refine WL.dec (fun c9 => ?_) (fun c9 => ?_)
        · refine WL.nil ?_
          refine W.condT rfl ?_
          refine W.region rfl ?_
          refine WL.p h Val.mv ?_
          refine WL.p h Val.mv ?_
          refine WL.call C102 (args := [pt br]) (congrArg (fun x => [x]) h0) ((l1DrawText_calls h 0 rfl (hr.mono hs1) hl (by omega)).mono ?_)
          rintro e w' ⟨tt, p2, rfl, h, hp21, hp22⟩
          refine ⟨_, rfl, ?_⟩
          refine WL.call C86 (args := [.string tt]) rfl ((l5Text_new w' tt).mono ?_)
          intro e w' hp'
          obtain ⟨F2, s, rfl, hs2, h, hrow⟩ := h.takeF hp'
          refine ⟨_, rfl, ?_⟩
          refine WL.bs1 h Try.underlying102 T42 (by decide) (cs := [s]) rfl rfl (fun b8 w h => ?_)
          refine WL.app 2 h rfl Try.underlying102 T42 (by decide) h6 rfl (news := [s]) rfl (box_news h (i := 3) rfl) (one1 hrow.one) (by omega) (by omega) (fun kv' w h => ?_)
          refine WL.p h Val.as ?_
          refine WL.nil ?_
          exact ⟨F2, kv', ss ++ [s], ess ++ [[⟨4, 0, tt, 0⟩]], p2, hs1.trans hs2, (h.keep 3).cast (by simp), (hko.mono hs2).snoc hrow, hbo.snoc (by simp) hBd, by simp [hlo], by omega, by rw [hgs]; omega, h0, h1, h4, rfl, h7, h8, h9⟩
        · refine WL.nil ?_
          refine W.condF rfl ?_
          refine W.region rfl ?_
          refine WL.p h Val.mv ?_
          refine WL.p h Val.mv ?_
          refine WL.p h Val.mv ?_
          refine WL.p h (Val.subi (c := (d : Int)) h1 rfl (by omega)) ?_
          refine WL.call C82 (args := [pt br, .int .i64 (d : Int)]) (congrArg (fun x => [x, Value.int .i64 (d : Int)]) h0) ((liftR (C := KD d) (B := BD d) h 0 rfl (fun F1 hs h => ih d (by omega) (by omega) h ((hr.mono hs1).mono hs) hl (by omega))).mono ?_)
          rintro e w' ⟨F2, s, es, p2, rfl, hs2, h, hrow, hp21, hp22, he1, he2⟩
          refine ⟨_, rfl, ?_⟩
          refine WL.bs1 h Try.underlying102 T42 (by decide) (cs := [s]) rfl rfl (fun b8 w h => ?_)
          refine WL.app 2 h rfl Try.underlying102 T42 (by decide) h6 rfl (news := [s]) rfl (box_news h (i := 3) rfl) (one1 hrow.one) (by omega) (by omega) (fun kv' w h => ?_)
          refine WL.p h Val.as ?_
          refine WL.nil ?_
          exact ⟨F2, kv', ss ++ [s], ess ++ [es], p2, hs1.trans hs2, (h.keep 3).cast (by simp), (hko.mono hs2).snoc hrow, hbo.snoc he1 he2, by simp [hlo], by omega, by rw [hgs]; omega, h0, h1, h4, rfl, h7, h8, h9⟩
      · clear h h0 h1 h4 h6 h7 h8 h9
        rintro R w ⟨F2, kv', ss', ess', p2, hs2, h, hk2, hb2, hl2, hp21, hp22, h0, h1, h4, h6, h7, h8, h9⟩
        refine W.region rfl ?_
        refine WL.p h Val.mv ?_
        refine WL.p h (Val.addi (c := ((i + 1 : Nat) : Int)) h9 rfl (by omega)) ?_
        refine WL.p h Val.as ?_
        refine WL.nil ?_
        exact ⟨m - 1, by omega, i + 1, by omega, F2, kv', ss', ess', p2, hs2, h, hk2, hb2, hl2, hp21, hp22, h0, h1, h4, h6, h7, h8, rfl⟩
    · refine WL.nil ?_
      refine W.condF rfl ?_
      refine W.exit ?_
      have hfl := flat_small hbo (by omega)
      have hgi := gK_le (K := KD d + 7) (i := i) (j := 4) (by omega) (by omega)
      refine W.seq (W.region rfl ?_)
      refine WL.p h Val.mv ?_
      refine WL.call C87 (args := [.int .i64 5, kv]) (congrArg (fun x => [Value.int .i64 5, x]) h6) ((l5Make_new w 5 kv ss ess (h.row 2 rfl) (hko.mono h.sub) (fun es he => (hbo es he).1) (by omega)).mono ?_)
      intro e w' hp'
      obtain ⟨s, c, rfl, h, hh⟩ := h.takeC hp'
      refine ⟨_, rfl, ?_⟩
      refine WL.stS 1 h rfl T42 h4 (vs := [s]) rfl (one1 (hh.one (h.holds 3 _ rfl))) rfl rfl (fun w h => ?_)
      refine WL.nil ?_
      refine W.ret ?_
      exact finBox h 1 rfl h4 rfl A42 T42 rfl (PR.mk' h h0F hs1 0 3 (by decide) rfl rfl hh (by omega) (by omega) (by simp) (by simp only [List.length_append, List.length_singleton]; omega))
  refine WL.nil ?_
  refine W.condF rfl ?_
  refine W.skip ?_
  obtain ⟨F1, hs0, h, hrow0⟩ := h.freezeRow 2 rfl
  have h := h.keep 2
  refine W.seq (W.seq (W.region rfl ?_))
  refine WL.p h Val.as ?_
  refine WL.nil ?_
  refine W.block ?_
  refine W.loop (fun m R w => ∃ i, m + i = n ∧ drI w0 F0 F br b4 bv p d n i R w) n ?_ (fun m R w hI => ?_)
  · exact ⟨0, by omega, F1, _, [], [], 0, _, hs0, h, hrow0, KR.nil, KB.nil, rfl, by omega, by omega, by simp only [gK]; omega, h0, h1, h4, rfl, rfl, rfl⟩
  clear h h0 h1 h4 h5 h17 h27 hrow0
  obtain ⟨i, hm, F', kv, ss, ess, q, p', hs1, h, hrow, hko, hbo, hlo, hqi, hp1, hp2, h0, h1, h4, h6, h7, h10⟩ := hI
  refine W.seq (W.seq (W.region rfl ?_))
  refine WL.p h Val.mv ?_
  refine WL.p h Val.mv ?_
  refine WL.p h (Val.lt h10 h7) ?_
  refine WL.dec (fun c8 => ?_) (fun c8 => ?_)
  · have hgi := hgl (i := i) (by omega)
    refine WL.nil ?_
    refine W.condT rfl ?_
    refine W.skip ?_
    refine W.seq (W.block ?_)
    refine W.draw (fun _ => True) [10, 11] 12 (by kernel_rfl) rfl rfl ?_
    have h := h.drewN 1
    have hS := trivial
    refine WD.take 0 rfl (by kernel_rfl) (fun _ _ _ h => fin_panic h) hS Val.mv ?_
    refine WD.take 2 rfl (by kernel_rfl) (fun _ _ _ h => fin_panic h) hS Val.mv ?_
    refine WD.take 6 rfl (by kernel_rfl) (fun _ _ _ h => fin_panic h) hS Val.mv ?_
    refine WD.take 7 rfl (by kernel_rfl) (fun _ _ _ h => fin_panic h) hS Val.mv ?_
    refine WD.take 8 rfl (by kernel_rfl) (fun _ _ _ h => fin_panic h) hS (Val.subi (c := (d : Int)) h1 rfl (by omega)) ?_
    refine WD.all2 1 3 (by kernel_rfl) rfl rfl ?_ ?_
    · refine WL.bsN h Try.underlying24 T9 (vs := drawNames.map Value.string) rfl rfl (by decide) (one_map _ (fun _ => rfl) _) (fun b7 w h => ?_)
      refine WL.nil ?_
      refine ⟨trivial, ?_⟩
      refine WD.one 3 rfl (by kernel_rfl) ?_
      refine WL.call C57 (args := [pt br, .int .i64 6]) (congrArg (fun x => [x, Value.int .i64 6]) h0) ((pickL h 0 rfl (hr.mono hs1) hl (by omega) 6 (by omega)).mono ?_)
      rintro e w' ⟨x, rfl, h, hx1, hx2⟩
      refine ⟨_, rfl, ?_⟩
      have hx2 := hx2 (by omega)
      obtain ⟨x, rfl⟩ : ∃ y : Nat, x = y := ⟨x.toNat, by omega⟩
      obtain ⟨nn, hnn⟩ := get_map Value.string drawNames x (by show x < 6; omega)
      refine WL.nil ?_
      refine ⟨trivial, ?_⟩
      refine WD.take 4 rfl (by kernel_rfl) (fun _ _ _ h => fin_panic h) hS (Val.ixA (i := x) (n := 6) Try.underlying24 T9 rfl rfl ⟨_, rfl⟩ (by omega)) ?_
      refine WD.all2 5 9 (by kernel_rfl) rfl rfl ?_ ?_
      · refine WL.p h (Val.ld 2 A9 rfl rfl (v := Value.string nn) (by show (drawNames.map Value.string)[0 + x * 1]? = _; rw [Nat.zero_add, Nat.mul_one]; exact hnn)) ?_
        refine WL.nil ?_
        refine ⟨trivial, ?_⟩
        refine WD.one 9 rfl (by kernel_rfl) ?_
        refine WL.call C82 (args := [pt br, .int .i64 (d : Int)]) (congrArg (fun x => [x, Value.int .i64 (d : Int)]) h0) ((liftR (C := KD d) (B := BD d) h 0 rfl (fun F1 hs h => ih d (by omega) (by omega) h ((hr.mono hs1).mono hs) hl (by omega))).mono ?_)
        rintro e w' ⟨F2, s, es, p2, rfl, hs2, h, hrs, hp21, hp22, he1, he2⟩
        refine ⟨_, rfl, ?_⟩
        refine WL.nil ?_
        refine ⟨trivial, ?_⟩
        refine WD.last 10 rfl (by kernel_rfl) rfl ?_
        have h := h.keep 2
        refine WL.call C88 (args := [kv, .string nn, .agg #[s]]) (congrArg (fun x => [x, Value.string nn, Value.agg #[s]]) h6) ((l5Set_calls F2 _ h.sub kv ss ess q (BD d) hlo (by omega) (hrow.mono hs2) (hko.mono hs2) hbo hBd nn s es hrs ⟨he1, he2⟩).mono ?_)
        rintro e w' ⟨F3, kv', ss', ess', q', rfl, hE, hrow', hk', hl', hq', hb'⟩
        have h := h.call hE
        refine ⟨_, rfl, ?_⟩
        refine WL.nil ?_
        refine WD.last 11 rfl (by kernel_rfl) rfl ?_
        refine WL.p h Val.as ?_
        refine WL.nil ?_
        refine WD.nil (by kernel_rfl) ?_
        refine W.region rfl ?_
        refine WL.p h Val.mv ?_
        refine WL.p h (Val.addi (c := ((i + 1 : Nat) : Int)) h10 rfl (by omega)) ?_
        refine WL.p h Val.as ?_
        refine WL.nil ?_
        exact ⟨m - 1, by omega, i + 1, by omega, F3, kv', ss', ess', q', _, hs1.trans (hs2.trans hE.ext), h, hrow', hk', hb', hl', by omega, by omega, by rw [hgs]; omega, h0, h1, h4, rfl, h7, rfl⟩
      · refine WL.call C82 (args := [pt br, .int .i64 (d : Int)]) (congrArg (fun x => [x, Value.int .i64 (d : Int)]) h0) ((liftR (C := KD d) (B := BD d) h 0 rfl (fun F1 hs h => ih d (by omega) (by omega) h ((hr.mono hs1).mono hs) hl (by omega))).mono ?_)
        rintro e w' ⟨F2, s, es, p2, rfl, hs2, h, hrs, hp21, hp22, he1, he2⟩
        refine ⟨_, rfl, ?_⟩
        refine WL.nil ?_
        refine ⟨trivial, ?_⟩
        refine WD.one 5 rfl (by kernel_rfl) ?_
        refine WL.p h (Val.ld 2 A9 rfl rfl (v := Value.string nn) (by show (drawNames.map Value.string)[0 + x * 1]? = _; rw [Nat.zero_add, Nat.mul_one]; exact hnn)) ?_
        refine WL.nil ?_
        refine ⟨trivial, ?_⟩
        refine WD.last 10 rfl (by kernel_rfl) rfl ?_
        have h := h.keep 2
        refine WL.call C88 (args := [kv, .string nn, .agg #[s]]) (congrArg (fun x => [x, Value.string nn, Value.agg #[s]]) h6) ((l5Set_calls F2 _ h.sub kv ss ess q (BD d) hlo (by omega) (hrow.mono hs2) (hko.mono hs2) hbo hBd nn s es hrs ⟨he1, he2⟩).mono ?_)
        rintro e w' ⟨F3, kv', ss', ess', q', rfl, hE, hrow', hk', hl', hq', hb'⟩
        have h := h.call hE
        refine ⟨_, rfl, ?_⟩
        refine WL.nil ?_
        refine WD.last 11 rfl (by kernel_rfl) rfl ?_
        refine WL.p h Val.as ?_
        refine WL.nil ?_
        refine WD.nil (by kernel_rfl) ?_
        refine W.region rfl ?_
        refine WL.p h Val.mv ?_
        refine WL.p h (Val.addi (c := ((i + 1 : Nat) : Int)) h10 rfl (by omega)) ?_
        refine WL.p h Val.as ?_
        refine WL.nil ?_
        exact ⟨m - 1, by omega, i + 1, by omega, F3, kv', ss', ess', q', _, hs1.trans (hs2.trans hE.ext), h, hrow', hk', hb', hl', by omega, by omega, by rw [hgs]; omega, h0, h1, h4, rfl, h7, rfl⟩
    · refine WL.call C57 (args := [pt br, .int .i64 6]) (congrArg (fun x => [x, Value.int .i64 6]) h0) ((pickL h 0 rfl (hr.mono hs1) hl (by omega) 6 (by omega)).mono ?_)
      rintro e w' ⟨x, rfl, h, hx1, hx2⟩
      refine ⟨_, rfl, ?_⟩
      have hx2 := hx2 (by omega)
      obtain ⟨x, rfl⟩ : ∃ y : Nat, x = y := ⟨x.toNat, by omega⟩
      obtain ⟨nn, hnn⟩ := get_map Value.string drawNames x (by show x < 6; omega)
      refine WL.nil ?_
      refine ⟨trivial, ?_⟩
      refine WD.all2 1 9 (by kernel_rfl) rfl rfl ?_ ?_
      · refine WL.bsN h Try.underlying24 T9 (vs := drawNames.map Value.string) rfl rfl (by decide) (one_map _ (fun _ => rfl) _) (fun b7 w h => ?_)
        refine WL.nil ?_
        refine ⟨trivial, ?_⟩
        refine WD.take 4 rfl (by kernel_rfl) (fun _ _ _ h => fin_panic h) hS (Val.ixA (i := x) (n := 6) Try.underlying24 T9 rfl rfl ⟨_, rfl⟩ (by omega)) ?_
        refine WD.all2 5 9 (by kernel_rfl) rfl rfl ?_ ?_
        · refine WL.p h (Val.ld 2 A9 rfl rfl (v := Value.string nn) (by show (drawNames.map Value.string)[0 + x * 1]? = _; rw [Nat.zero_add, Nat.mul_one]; exact hnn)) ?_
          refine WL.nil ?_
          refine ⟨trivial, ?_⟩
          refine WD.one 9 rfl (by kernel_rfl) ?_
          refine WL.call C82 (args := [pt br, .int .i64 (d : Int)]) (congrArg (fun x => [x, Value.int .i64 (d : Int)]) h0) ((liftR (C := KD d) (B := BD d) h 0 rfl (fun F1 hs h => ih d (by omega) (by omega) h ((hr.mono hs1).mono hs) hl (by omega))).mono ?_)
          rintro e w' ⟨F2, s, es, p2, rfl, hs2, h, hrs, hp21, hp22, he1, he2⟩
          refine ⟨_, rfl, ?_⟩
          refine WL.nil ?_
          refine ⟨trivial, ?_⟩
          refine WD.last 10 rfl (by kernel_rfl) rfl ?_
          have h := h.keep 2
          refine WL.call C88 (args := [kv, .string nn, .agg #[s]]) (congrArg (fun x => [x, Value.string nn, Value.agg #[s]]) h6) ((l5Set_calls F2 _ h.sub kv ss ess q (BD d) hlo (by omega) (hrow.mono hs2) (hko.mono hs2) hbo hBd nn s es hrs ⟨he1, he2⟩).mono ?_)
          rintro e w' ⟨F3, kv', ss', ess', q', rfl, hE, hrow', hk', hl', hq', hb'⟩
          have h := h.call hE
          refine ⟨_, rfl, ?_⟩
          refine WL.nil ?_
          refine WD.last 11 rfl (by kernel_rfl) rfl ?_
          refine WL.p h Val.as ?_
          refine WL.nil ?_
          refine WD.nil (by kernel_rfl) ?_
          refine W.region rfl ?_
          refine WL.p h Val.mv ?_
          refine WL.p h (Val.addi (c := ((i + 1 : Nat) : Int)) h10 rfl (by omega)) ?_
          refine WL.p h Val.as ?_
          refine WL.nil ?_
          exact ⟨m - 1, by omega, i + 1, by omega, F3, kv', ss', ess', q', _, hs1.trans (hs2.trans hE.ext), h, hrow', hk', hb', hl', by omega, by omega, by rw [hgs]; omega, h0, h1, h4, rfl, h7, rfl⟩
        · refine WL.call C82 (args := [pt br, .int .i64 (d : Int)]) (congrArg (fun x => [x, Value.int .i64 (d : Int)]) h0) ((liftR (C := KD d) (B := BD d) h 0 rfl (fun F1 hs h => ih d (by omega) (by omega) h ((hr.mono hs1).mono hs) hl (by omega))).mono ?_)
          rintro e w' ⟨F2, s, es, p2, rfl, hs2, h, hrs, hp21, hp22, he1, he2⟩
          refine ⟨_, rfl, ?_⟩
          refine WL.nil ?_
          refine ⟨trivial, ?_⟩
          refine WD.one 5 rfl (by kernel_rfl) ?_
          refine WL.p h (Val.ld 2 A9 rfl rfl (v := Value.string nn) (by show (drawNames.map Value.string)[0 + x * 1]? = _; rw [Nat.zero_add, Nat.mul_one]; exact hnn)) ?_
          refine WL.nil ?_
          refine ⟨trivial, ?_⟩
          refine WD.last 10 rfl (by kernel_rfl) rfl ?_
          have h := h.keep 2
          refine WL.call C88 (args := [kv, .string nn, .agg #[s]]) (congrArg (fun x => [x, Value.string nn, Value.agg #[s]]) h6) ((l5Set_calls F2 _ h.sub kv ss ess q (BD d) hlo (by omega) (hrow.mono hs2) (hko.mono hs2) hbo hBd nn s es hrs ⟨he1, he2⟩).mono ?_)
          rintro e w' ⟨F3, kv', ss', ess', q', rfl, hE, hrow', hk', hl', hq', hb'⟩
          have h := h.call hE
          refine ⟨_, rfl, ?_⟩
          refine WL.nil ?_
          refine WD.last 11 rfl (by kernel_rfl) rfl ?_
          refine WL.p h Val.as ?_
          refine WL.nil ?_
          refine WD.nil (by kernel_rfl) ?_
          refine W.region rfl ?_
          refine WL.p h Val.mv ?_
          refine WL.p h (Val.addi (c := ((i + 1 : Nat) : Int)) h10 rfl (by omega)) ?_
          refine WL.p h Val.as ?_
          refine WL.nil ?_
          exact ⟨m - 1, by omega, i + 1, by omega, F3, kv', ss', ess', q', _, hs1.trans (hs2.trans hE.ext), h, hrow', hk', hb', hl', by omega, by omega, by rw [hgs]; omega, h0, h1, h4, rfl, h7, rfl⟩
      · refine WL.call C82 (args := [pt br, .int .i64 (d : Int)]) (congrArg (fun x => [x, Value.int .i64 (d : Int)]) h0) ((liftR (C := KD d) (B := BD d) h 0 rfl (fun F1 hs h => ih d (by omega) (by omega) h ((hr.mono hs1).mono hs) hl (by omega))).mono ?_)
        rintro e w' ⟨F2, s, es, p2, rfl, hs2, h, hrs, hp21, hp22, he1, he2⟩
        refine ⟨_, rfl, ?_⟩
        refine WL.nil ?_
        refine ⟨trivial, ?_⟩
        refine WD.one 1 rfl (by kernel_rfl) ?_
        refine WL.bsN h Try.underlying24 T9 (vs := drawNames.map Value.string) rfl rfl (by decide) (one_map _ (fun _ => rfl) _) (fun b7 w h => ?_)
        refine WL.nil ?_
        refine ⟨trivial, ?_⟩
        refine WD.take 4 rfl (by kernel_rfl) (fun _ _ _ h => fin_panic h) hS (Val.ixA (i := x) (n := 6) Try.underlying24 T9 rfl rfl ⟨_, rfl⟩ (by omega)) ?_
        refine WD.one 5 rfl (by kernel_rfl) ?_
        refine WL.p h (Val.ld 2 A9 rfl rfl (v := Value.string nn) (by show (drawNames.map Value.string)[0 + x * 1]? = _; rw [Nat.zero_add, Nat.mul_one]; exact hnn)) ?_
        refine WL.nil ?_
        refine ⟨trivial, ?_⟩
        refine WD.last 10 rfl (by kernel_rfl) rfl ?_
        have h := h.keep 2
        refine WL.call C88 (args := [kv, .string nn, .agg #[s]]) (congrArg (fun x => [x, Value.string nn, Value.agg #[s]]) h6) ((l5Set_calls F2 _ h.sub kv ss ess q (BD d) hlo (by omega) (hrow.mono hs2) (hko.mono hs2) hbo hBd nn s es hrs ⟨he1, he2⟩).mono ?_)
        rintro e w' ⟨F3, kv', ss', ess', q', rfl, hE, hrow', hk', hl', hq', hb'⟩
        have h := h.call hE
        refine ⟨_, rfl, ?_⟩
        refine WL.nil ?_
        refine WD.last 11 rfl (by kernel_rfl) rfl ?_
        refine WL.p h Val.as ?_
        refine WL.nil ?_
        refine WD.nil (by kernel_rfl) ?_
        refine W.region rfl ?_
        refine WL.p h Val.mv ?_
        refine WL.p h (Val.addi (c := ((i + 1 : Nat) : Int)) h10 rfl (by omega)) ?_
        refine WL.p h Val.as ?_
        refine WL.nil ?_
        exact ⟨m - 1, by omega, i + 1, by omega, F3, kv', ss', ess', q', _, hs1.trans (hs2.trans hE.ext), h, hrow', hk', hb', hl', by omega, by omega, by rw [hgs]; omega, h0, h1, h4, rfl, h7, rfl⟩
  · refine WL.nil ?_
    refine W.condF rfl ?_
    refine W.exit ?_
    have hfl := flat_small hbo (by omega)
    have hgi := gK_le (K := KD d + 7) (i := i) (j := 4) (by omega) (by omega)
    refine W.seq (W.region rfl ?_)
    refine WL.p h Val.mv ?_
    refine WL.call C87 (args := [.int .i64 6, kv]) (congrArg (fun x => [Value.int .i64 6, x]) h6) ((l5Make_new w 6 kv ss ess (hrow.mono h.sub) (hko.mono h.sub) (fun es he => (hbo es he).1) (by omega)).mono ?_)
    intro e w' hp'
    obtain ⟨s, c, rfl, h, hh⟩ := h.takeC hp'
    refine ⟨_, rfl, ?_⟩
    refine WL.stS 1 h rfl T42 h4 (vs := [s]) rfl (one1 (hh.one (h.holds 2 _ rfl))) rfl rfl (fun w h => ?_)
    refine WL.nil ?_
    refine W.ret ?_
    exact finBox h 1 rfl h4 rfl A42 T42 rfl (PR.mk' h h0F hs1 0 2 (by decide) rfl rfl hh (by omega) (by omega) (by simp) (by simp only [List.length_append, List.length_singleton]; omega))
end Go.Proofs.Ytmiihhbgfijcmaa.K

