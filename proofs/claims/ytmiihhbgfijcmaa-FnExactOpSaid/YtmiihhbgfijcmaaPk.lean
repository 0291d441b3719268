/- pack: the program's inner values written out as atoms; walked. -/
import Derived.Test.YtmiihhbgfijcmaaOi
import Derived.Test.YtmiihhbgfijcmaaLv
import Derived.Test.YtmiihhbgfijcmaaKg
namespace Go.Proofs.Ytmiihhbgfijcmaa.K
open Go Go.RowKit
set_option linter.unusedVariables false
set_option linter.unusedSimpArgs false
set_option maxRecDepth 20000
theorem C98 : CF Try.prog 98 := ⟨_, Try.func98, rfl, rfl⟩
theorem C99 : CF Try.prog 99 := ⟨_, Try.func99, rfl, rfl⟩
theorem C78 : CF Try.prog 78 := ⟨_, Try.func78, rfl, rfl⟩
theorem B79n (k n : Int) : Try.prog.built 79 [(0, .int .i64 k), (1, .int .i64 n)] = some #[.int .i64 k, .int .i64 n, .string ⟨#[]⟩, .int .i64 0] := by kernel_rfl
theorem B79t (k : Int) (s : ByteArray) : Try.prog.built 79 [(0, .int .i64 k), (2, .string s)] = some #[.int .i64 k, .int .i64 0, .string s, .int .i64 0] := by kernel_rfl
theorem B79c (k n : Int) : Try.prog.built 79 [(0, .int .i64 k), (3, .int .i64 n)] = some #[.int .i64 k, .int .i64 0, .string ⟨#[]⟩, .int .i64 n] := by kernel_rfl

mutual
def packV : V → List At
  | .none => [⟨1, 0, ⟨#[]⟩, 0⟩]
  | .bool b => [⟨2, if b then 1 else 0, ⟨#[]⟩, 0⟩]
  | .int n => [⟨3, n, ⟨#[]⟩, 0⟩]
  | .text s => [⟨4, 0, s, 0⟩]
  | .list l => packVs l ++ [⟨5, 0, ⟨#[]⟩, l.length⟩]
  | .record ns vs => packR ns vs ++ [⟨6, 0, ⟨#[]⟩, 2 * ns.length⟩]
def packVs : List V → List At
  | [] => []
  | v :: vs => packV v ++ packVs vs
def packR : List ByteArray → List V → List At
  | n :: ns, v :: vs => ⟨4, 0, n, 0⟩ :: (packV v ++ packR ns vs)
  | _, _ => []
end
theorem packVs_app : ∀ (a b : List V), packVs (a ++ b) = packVs a ++ packVs b
  | [], b => by simp [packVs]
  | v :: a, b => by simp [packVs, packVs_app a b]
theorem packR_app : ∀ (ns : List ByteArray) (vs : List V) (n : ByteArray) (v : V), ns.length = vs.length → packR (ns ++ [n]) (vs ++ [v]) = packR ns vs ++ (⟨4, 0, n, 0⟩ :: packV v)
  | [], [], n, v, _ => by simp [packR]
  | a :: ns, b :: vs, n, v, h => by simp [packR, packR_app ns vs n v (by simpa using h)]
theorem packVs_le : ∀ (l : List V) (i : Nat) (v : V), l[i]? = some v → (packVs (l.take i)).length + (packV v).length ≤ (packVs l).length
  | [], i, v, h => by simp at h
  | x :: l, 0, v, h => by simp at h; subst h; simp [packVs]
  | x :: l, i + 1, v, h => by
    have := packVs_le l i v (by simpa using h)
    simp only [List.take_succ_cons, packVs, List.length_append]; omega
theorem packR_le : ∀ (ns : List ByteArray) (l : List V) (i : Nat) (n : ByteArray) (v : V), ns[i]? = some n → l[i]? = some v → (packR (ns.take i) (l.take i)).length + 1 + (packV v).length ≤ (packR ns l).length
  | [], l, i, n, v, h, _ => by simp at h
  | a :: ns, [], i, n, v, _, h => by simp at h
  | a :: ns, x :: l, 0, n, v, h1, h => by simp at h; subst h; simp [packR]; omega
  | a :: ns, x :: l, i + 1, n, v, h1, h => by
    have := packR_le ns l i n v (by simpa using h1) (by simpa using h)
    simp only [List.take_succ_cons, packR, List.length_append, List.length_cons]; omega

theorem packV_pos (v : V) : 0 < (packV v).length := by cases v <;> simp [packV]
theorem packVs_ge : ∀ (l : List V), l.length ≤ (packVs l).length
  | [] => by simp
  | v :: l => by have := packVs_ge l; have := packV_pos v; simp only [packVs, List.length_append, List.length_cons]; omega
theorem packR_ge : ∀ (ns : List ByteArray) (l : List V), ns.length = l.length → 2 * ns.length ≤ (packR ns l).length
  | [], [], _ => by simp
  | n :: ns, v :: l, h => by have := packR_ge ns l (by simpa using h); have := packV_pos v; simp only [packR, List.length_append, List.length_cons]; omega
def pt (b : Nat) : Value := .pointer (some ⟨b, 0, none⟩)
def addF (b3 : Nat) : Value := .func (.func 98) #[] #[pt b3]
def putF (b4 b5 : Nat) : Value := .func (.func 99) #[] #[pt b5, pt b4]
def L5 (b2 b3 b4 b5 : Nat) (s : Value) (es : List At) : List Ch := [.box b2 [.slice none 0 0] 42, .box b3 [s] 42, .box b4 [putF b4 b5] 145, .box b5 [addF b3] 146, .own s 79 4 es.length (rowA es)]
def PP (w0 : World) (F0 F : Fz) (b2 b3 b4 b5 : Nat) (es : List At) (e : Ending) (w : World) : Prop := e = .returned (.tuple #[]) ∧ ∃ s, Hp w0 F0 F (L5 b2 b3 b4 b5 s es) w
theorem rowA_app (es fs : List At) : rowA (es ++ fs) = rowA es ++ rowA fs := by simp [rowA]
theorem add_calls {w0 w : World} {F0 F : Fz} {b2 b3 b4 b5 : Nat} {s : Value} {es : List At} (h : Hp w0 F0 F (L5 b2 b3 b4 b5 s es) w) (hl : es.length < 1048576) (a : At) (args : List Value) (ha : args = [.agg a.cells.toArray, pt b3]) :
    Calls Try.prog 98 args.toArray w (PP w0 F0 F b2 b3 b4 b5 (es ++ [a])) := by
  subst ha
  refine calls 9 Try.func98 rfl rfl rfl ?_
  refine W.seq (W.region rfl ?_)
  refine WL.box h rfl (fun b9 w h => ?_)
  refine WL.nil ?_
  refine W.region rfl ?_
  refine WL.p h (Val.fa O42_0 rfl) ?_
  refine WL.p h (Val.ld 1 A40 rfl rfl rfl) ?_
  refine WL.p h (Val.ldS 5 A79 T79 rfl rfl rfl) ?_
  refine WL.bs1 h Try.underlying40 T79 (by decide) (cs := a.cells) rfl rfl (fun b10 w h => ?_)
  refine WL.app 4 h rfl Try.underlying40 T79 (by decide) rfl rfl (news := a.cells) rfl (box_news h (i := 6) rfl) (at_one a) (by omega) (by omega) (fun s' w h => ?_)
  refine WL.p h (Val.fa O42_0 rfl) ?_
  refine WL.st 1 (v := s') h rfl T40 rfl rfl (h.own1 4 rfl) rfl (fun w h => ?_)
  refine WL.nil ?_
  refine fin0 rfl ⟨rfl, s', (h.keep 5).cast ?_⟩
  simp [L5, rowA]

def plI (w0 : World) (F0 F : Fz) (b2 b3 b4 b5 : Nat) (es : List At) (u : Value) (l : List V) (m : Nat) (R : Regs) (w : World) : Prop :=
  ∃ (i : Nat) (s : Value), m + i = l.length ∧ Hp w0 F0 F (L5 b2 b3 b4 b5 s (es ++ packVs (l.take i))) w ∧ R 1 = pt b5 ∧ R 2 = pt b4 ∧ R 9 = u ∧ R 46 = u ∧ R 47 = .int .i64 (l.length : Int) ∧ R 48 = .int .i64 (i : Int)
def prI (w0 : World) (F0 F : Fz) (b2 b3 b4 b5 b12 : Nat) (es : List At) (na va : Value) (ns : List ByteArray) (l : List V) (m : Nat) (R : Regs) (w : World) : Prop :=
  ∃ (i : Nat) (s : Value), m + i = ns.length ∧ Hp w0 F0 F (L5 b2 b3 b4 b5 s (es ++ packR (ns.take i) (l.take i)) ++ [.box b12 [na, va] 112]) w ∧ R 1 = pt b5 ∧ R 2 = pt b4 ∧ R 12 = pt b12 ∧ R 65 = na ∧ R 66 = .int .i64 (ns.length : Int) ∧ R 67 = .int .i64 (i : Int)
set_option maxHeartbeats 2000000 in
theorem put_calls (w0 : World) (F0 : Fz) (b2 b3 b4 b5 : Nat) : ∀ (n : Nat) (v : V) (F : Fz) (w : World) (es : List At) (s a : Value) (hr : Rep F v a) (h : Hp w0 F0 F (L5 b2 b3 b4 b5 s es) w) (hl : es.length + (packV v).length ≤ 1048576) (hn : (packV v).length = n) (args : List Value) (ha : args = [a, pt b5, pt b4]), Calls Try.prog 99 args.toArray w (PP w0 F0 F b2 b3 b4 b5 (es ++ packV v)) := by
  intro n
  induction n using Nat.strongRecOn with
  | ind n ih =>
    intro v F w es s a hr h hl hn args ha
    subst ha
    refine calls 91 Try.func99 rfl rfl rfl ?_
    refine W.seq (W.region rfl ?_)
    refine WL.p h Val.mv ?_
    refine WL.nil ?_
    refine W.block ?_
    cases v with
    | none =>
      simp only [Rep] at hr
      subst hr
      refine W.seq (W.region rfl ?_)
      refine WL.p h (Val.eqNil (by kernel_rfl) rfl (.inl rfl)) ?_
      refine WL.nil ?_
      refine W.condT rfl ?_
      refine W.seq (W.region rfl ?_)
      refine WL.p h Val.as ?_
      refine WL.nil ?_
      refine W.region rfl ?_
      refine WL.p h (Val.ld 3 A146 rfl rfl rfl) ?_
      refine WL.p h (Val.build1 rfl (B79k 1)) ?_
      refine WL.callC (caps := [pt b3]) C98 rfl rfl ((add_calls h (by simp [packV] at hl; omega) ⟨1, 0, ⟨#[]⟩, 0⟩ _ rfl).mono ?_)
      rintro e w' ⟨rfl, s', h⟩
      refine ⟨_, rfl, ?_⟩
      refine WL.nil ?_
      exact fin0 rfl ⟨rfl, s', h⟩
    | bool b =>
      simp only [Rep] at hr
      subst hr
      refine W.seq (W.region rfl ?_)
      refine WL.p h (Val.eqNil (by kernel_rfl) rfl (.inr ⟨_, _, rfl⟩)) ?_
      refine WL.nil ?_
      refine W.condF rfl ?_
      refine W.seq (W.region rfl ?_)
      refine WL.p h (Val.taY N4 rfl) ?_
      refine WL.p h (Val.ext rfl rfl) ?_
      refine WL.p h (Val.ext rfl rfl) ?_
      refine WL.nil ?_
      refine W.condT rfl ?_
      refine W.seq (W.region rfl ?_)
      refine WL.p h Val.as ?_
      refine WL.nil ?_
      refine W.seq (W.region rfl ?_)
      refine WL.p h (Val.build1 rfl (B79k 2)) ?_
      refine WL.alloc h T79 (fun b6 w h => ?_)
      refine WL.stS 5 h rfl T79 rfl (vs := (⟨2, 0, ⟨#[]⟩, 0⟩ : At).cells) rfl (at_one _) rfl rfl (fun w h => ?_)
      refine WL.nil ?_
      refine W.seq (W.seq (W.region rfl ?_))
      refine WL.p h Val.mv ?_
      refine WL.nil ?_
      cases b with
      | true =>
        refine W.condT rfl ?_
        refine W.region rfl ?_
        refine WL.p h (Val.fa O79_1 rfl) ?_
        refine WL.st 5 (v := .int .i64 1) h rfl T2 rfl rfl rfl rfl (fun w h => ?_)
        refine WL.nil ?_
        refine W.region rfl ?_
        refine WL.p h (Val.ld 3 A146 rfl rfl rfl) ?_
        refine WL.p h (Val.ldS 5 A79 T79 rfl rfl rfl) ?_
        have h := h.keep 5
        refine WL.callC (caps := [pt b3]) C98 rfl rfl ((add_calls (s := s) (es := es) h (by simp [packV] at hl; omega) ⟨2, 1, ⟨#[]⟩, 0⟩ _ rfl).mono ?_)
        rintro e w' ⟨rfl, s', h⟩
        refine ⟨_, rfl, ?_⟩
        refine WL.nil ?_
        exact fin0 rfl ⟨rfl, s', h⟩
      | false =>
        refine W.condF rfl ?_
        refine W.skip ?_
        refine W.region rfl ?_
        refine WL.p h (Val.ld 3 A146 rfl rfl rfl) ?_
        refine WL.p h (Val.ldS 5 A79 T79 rfl rfl rfl) ?_
        have h := h.keep 5
        refine WL.callC (caps := [pt b3]) C98 rfl rfl ((add_calls (s := s) (es := es) h (by simp [packV] at hl; omega) ⟨2, 0, ⟨#[]⟩, 0⟩ _ rfl).mono ?_)
        rintro e w' ⟨rfl, s', h⟩
        refine ⟨_, rfl, ?_⟩
        refine WL.nil ?_
        exact fin0 rfl ⟨rfl, s', h⟩
    | int k =>
      simp only [Rep] at hr
      subst hr
      refine W.seq (W.region rfl ?_)
      refine WL.p h (Val.eqNil (by kernel_rfl) rfl (.inr ⟨_, _, rfl⟩)) ?_
      refine WL.nil ?_
      refine W.condF rfl ?_
      refine W.seq (W.region rfl ?_)
      refine WL.p h (Val.taN N4 T4 rfl (by decide)) ?_
      refine WL.p h (Val.ext rfl rfl) ?_
      refine WL.p h (Val.ext rfl rfl) ?_
      refine WL.nil ?_
      refine W.condF rfl ?_
      refine W.seq (W.region rfl ?_)
      refine WL.p h (Val.taY N2 rfl) ?_
      refine WL.p h (Val.ext rfl rfl) ?_
      refine WL.p h (Val.ext rfl rfl) ?_
      refine WL.nil ?_
      refine W.condT rfl ?_
      refine W.seq (W.region rfl ?_)
      refine WL.p h Val.as ?_
      refine WL.nil ?_
      refine W.region rfl ?_
      refine WL.p h (Val.ld 3 A146 rfl rfl rfl) ?_
      refine WL.p h Val.mv ?_
      refine WL.p h (Val.build2 rfl rfl (B79n 3 k)) ?_
      refine WL.callC (caps := [pt b3]) C98 rfl rfl ((add_calls h (by simp [packV] at hl; omega) ⟨3, k, ⟨#[]⟩, 0⟩ _ rfl).mono ?_)
      rintro e w' ⟨rfl, s', h⟩
      refine ⟨_, rfl, ?_⟩
      refine WL.nil ?_
      exact fin0 rfl ⟨rfl, s', h⟩
    | text t =>
      simp only [Rep] at hr
      subst hr
      refine W.seq (W.region rfl ?_)
      refine WL.p h (Val.eqNil (by kernel_rfl) rfl (.inr ⟨_, _, rfl⟩)) ?_
      refine WL.nil ?_
      refine W.condF rfl ?_
      refine W.seq (W.region rfl ?_)
      refine WL.p h (Val.taN N4 T4 rfl (by decide)) ?_
      refine WL.p h (Val.ext rfl rfl) ?_
      refine WL.p h (Val.ext rfl rfl) ?_
      refine WL.nil ?_
      refine W.condF rfl ?_
      refine W.seq (W.region rfl ?_)
      refine WL.p h (Val.taN N2 T2 rfl (by decide)) ?_
      refine WL.p h (Val.ext rfl rfl) ?_
      refine WL.p h (Val.ext rfl rfl) ?_
      refine WL.nil ?_
      refine W.condF rfl ?_
      refine W.seq (W.region rfl ?_)
      refine WL.p h (Val.taY N9 rfl) ?_
      refine WL.p h (Val.ext rfl rfl) ?_
      refine WL.p h (Val.ext rfl rfl) ?_
      refine WL.nil ?_
      refine W.condT rfl ?_
      refine W.seq (W.region rfl ?_)
      refine WL.p h Val.as ?_
      refine WL.nil ?_
      refine W.region rfl ?_
      refine WL.p h (Val.ld 3 A146 rfl rfl rfl) ?_
      refine WL.p h Val.mv ?_
      refine WL.p h (Val.build2 rfl rfl (B79t 4 t)) ?_
      refine WL.callC (caps := [pt b3]) C98 rfl rfl ((add_calls h (by simp [packV] at hl; omega) ⟨4, 0, t, 0⟩ _ rfl).mono ?_)
      rintro e w' ⟨rfl, s', h⟩
      refine ⟨_, rfl, ?_⟩
      refine WL.nil ?_
      exact fin0 rfl ⟨rfl, s', h⟩
    | list l =>
      simp only [Rep] at hr
      obtain ⟨u, us, rfl, hrow, hreps⟩ := hr
      have hpl : (packV (.list l)).length = (packVs l).length + 1 := by simp [packV]
      have hge := packVs_ge l
      refine W.seq (W.region rfl ?_)
      refine WL.p h (Val.eqNil (by kernel_rfl) rfl (.inr ⟨_, _, rfl⟩)) ?_
      refine WL.nil ?_
      refine W.condF rfl ?_
      refine W.seq (W.region rfl ?_)
      refine WL.p h (Val.taN N4 T4 rfl (by decide)) ?_
      refine WL.p h (Val.ext rfl rfl) ?_
      refine WL.p h (Val.ext rfl rfl) ?_
      refine WL.nil ?_
      refine W.condF rfl ?_
      refine W.seq (W.region rfl ?_)
      refine WL.p h (Val.taN N2 T2 rfl (by decide)) ?_
      refine WL.p h (Val.ext rfl rfl) ?_
      refine WL.p h (Val.ext rfl rfl) ?_
      refine WL.nil ?_
      refine W.condF rfl ?_
      refine W.seq (W.region rfl ?_)
      refine WL.p h (Val.taN N9 T9 rfl (by decide)) ?_
      refine WL.p h (Val.ext rfl rfl) ?_
      refine WL.p h (Val.ext rfl rfl) ?_
      refine WL.nil ?_
      refine W.condF rfl ?_
      refine W.seq (W.region rfl ?_)
      refine WL.p h (Val.taY N110 rfl) ?_
      refine WL.p h (Val.ext rfl rfl) ?_
      refine WL.p h (Val.ext rfl rfl) ?_
      refine WL.nil ?_
      refine W.condT rfl ?_
      refine W.seq (W.region rfl ?_)
      refine WL.p h Val.as ?_
      refine WL.nil ?_
      refine W.seq (W.seq (W.region rfl ?_))
      refine WL.p h Val.mv ?_
      refine WL.p h (Val.len Try.underlying110 rfl hrow.val) ?_
      refine WL.p h Val.mv ?_
      refine WL.nil ?_
      refine W.block ?_
      refine W.loop (plI w0 F0 F b2 b3 b4 b5 es u l) l.length ?_ (fun m R w hI => ?_)
      · exact ⟨0, s, by omega, h.cast (by simp [packVs]), rfl, rfl, rfl, rfl, rfl, rfl⟩
      clear h
      obtain ⟨i, s, hm, h, h1, h2, h9, h46, h47, h48⟩ := hI
      refine W.seq (W.region rfl ?_)
      refine WL.p h (Val.lt h48 h47) ?_
      refine WL.dec (fun c1 => ?_) (fun c1 => ?_)
      · obtain ⟨x, hx⟩ : ∃ x, l[i]? = some x := ⟨_, List.getElem?_eq_getElem (by omega)⟩
        obtain ⟨c, hc, hrc⟩ := hreps.get hx
        have hle := packVs_le l i x hx
        refine WL.nil ?_
        refine W.seq ?_
        refine W.condT rfl ?_
        refine W.skip ?_
        refine W.seq (W.block ?_)
        refine W.seq (W.region rfl ?_)
        refine WL.p h (Val.ix Try.underlying110 T71 h46 h48 (hrow.slice (by omega)) (by omega)) ?_
        refine WL.p h (Val.ldR A71 hrow rfl (u := c) (by rw [Nat.mul_one]; exact hc)) ?_
        refine WL.p h Val.as ?_
        refine WL.nil ?_
        refine W.region rfl ?_
        refine WL.p h (Val.ld 2 A145 rfl h2 rfl) ?_
        refine WL.p h Val.mv ?_
        refine WL.callC (caps := [pt b5, pt b4]) C99 rfl rfl ((ih (packV x).length (by omega) x F w _ s c hrc h (by rw [List.length_append]; omega) rfl _ rfl).mono ?_)
        rintro e w' ⟨rfl, s', h⟩
        refine ⟨_, rfl, ?_⟩
        refine WL.nil ?_
        refine W.region rfl ?_
        refine WL.p h (Val.addi (c := ((i + 1 : Nat) : Int)) h48 rfl (by omega)) ?_
        refine WL.p h Val.mv ?_
        refine WL.nil ?_
        refine ⟨m - 1, by omega, i + 1, s', by omega, h.cast ?_, h1, h2, h9, h46, h47, rfl⟩
        obtain ⟨hlt', e1⟩ := List.getElem?_eq_some_iff.1 hx
        rw [List.take_succ_eq_append_getElem hlt', packVs_app, e1]
        simp [packVs]
      · refine WL.nil ?_
        refine W.seq ?_
        refine W.condF rfl ?_
        refine W.exit ?_
        have hi : i = l.length := by omega
        rw [hi, List.take_length] at h
        refine W.region rfl ?_
        refine WL.p h (Val.ld 3 A146 rfl h1 rfl) ?_
        refine WL.p h Val.mv ?_
        refine WL.p h (Val.len Try.underlying110 h9 hrow.val) ?_
        refine WL.p h (Val.build2 rfl rfl (B79c 5 l.length)) ?_
        refine WL.callC (caps := [pt b3]) C98 rfl rfl ((add_calls h (by rw [List.length_append]; omega) ⟨5, 0, ⟨#[]⟩, l.length⟩ _ rfl).mono ?_)
        rintro e w' ⟨rfl, s', h⟩
        refine ⟨_, rfl, ?_⟩
        refine WL.nil ?_
        exact fin0 rfl ⟨rfl, s', h.cast (by simp [packV])⟩
    | record ns l =>
      simp only [Rep] at hr
      obtain ⟨na, va, us, rfl, hnl, hrn, hrow, hreps⟩ := hr
      have hpl : (packV (.record ns l)).length = (packR ns l).length + 1 := by simp [packV]
      have hge := packR_ge ns l hnl
      refine W.seq (W.region rfl ?_)
      refine WL.p h (Val.eqNil (by kernel_rfl) rfl (.inr ⟨_, _, rfl⟩)) ?_
      refine WL.nil ?_
      refine W.condF rfl ?_
      refine W.seq (W.region rfl ?_)
      refine WL.p h (Val.taN N4 T4 rfl (by decide)) ?_
      refine WL.p h (Val.ext rfl rfl) ?_
      refine WL.p h (Val.ext rfl rfl) ?_
      refine WL.nil ?_
      refine W.condF rfl ?_
      refine W.seq (W.region rfl ?_)
      refine WL.p h (Val.taN N2 T2 rfl (by decide)) ?_
      refine WL.p h (Val.ext rfl rfl) ?_
      refine WL.p h (Val.ext rfl rfl) ?_
      refine WL.nil ?_
      refine W.condF rfl ?_
      refine W.seq (W.region rfl ?_)
      refine WL.p h (Val.taN N9 T9 rfl (by decide)) ?_
      refine WL.p h (Val.ext rfl rfl) ?_
      refine WL.p h (Val.ext rfl rfl) ?_
      refine WL.nil ?_
      refine W.condF rfl ?_
      refine W.seq (W.region rfl ?_)
      refine WL.p h (Val.taN N110 T110 rfl (by decide)) ?_
      refine WL.p h (Val.ext rfl rfl) ?_
      refine WL.p h (Val.ext rfl rfl) ?_
      refine WL.nil ?_
      refine W.condF rfl ?_
      refine W.seq (W.region rfl ?_)
      refine WL.p h (Val.taY N112 rfl) ?_
      refine WL.p h (Val.ext rfl rfl) ?_
      refine WL.p h (Val.ext rfl rfl) ?_
      refine WL.nil ?_
      refine W.condT rfl ?_
      refine W.seq (W.region rfl ?_)
      refine WL.alloc h T112 (fun b12 w h => ?_)
      refine WL.stS 5 h rfl T112 rfl (vs := [na, va]) rfl (by obtain ⟨A, c, rfl, _⟩ := hrn.val; obtain ⟨A', c', rfl, _⟩ := hrow.val; simp [Value.oneCell']) rfl rfl (fun w h => ?_)
      refine WL.nil ?_
      refine W.seq (W.seq (W.region rfl ?_))
      refine WL.p h (Val.fa O112_0 rfl) ?_
      refine WL.p h (Val.ld 5 A24 rfl rfl rfl) ?_
      refine WL.p h (Val.len Try.underlying24 rfl hrn.val) ?_
      refine WL.p h Val.mv ?_
      refine WL.nil ?_
      refine W.block ?_
      refine W.loop (prI w0 F0 F b2 b3 b4 b5 b12 es na va ns l) ns.length ?_ (fun m R w hI => ?_)
      · exact ⟨0, s, by omega, h.cast (by simp [packR, L5]), rfl, rfl, rfl, rfl, rfl, rfl⟩
      clear h
      obtain ⟨i, s, hm, h, h1, h2, h12, h65, h66, h67⟩ := hI
      refine W.seq (W.region rfl ?_)
      refine WL.p h (Val.lt h67 h66) ?_
      refine WL.dec (fun c1 => ?_) (fun c1 => ?_)
      · obtain ⟨t, ht⟩ : ∃ x, ns[i]? = some x := ⟨_, List.getElem?_eq_getElem (by omega)⟩
        obtain ⟨x, hx⟩ : ∃ x, l[i]? = some x := ⟨_, List.getElem?_eq_getElem (by omega)⟩
        obtain ⟨c, hc, hrc⟩ := hreps.get hx
        have hle := packR_le ns l i t x ht hx
        refine WL.nil ?_
        refine W.seq ?_
        refine W.condT rfl ?_
        refine W.skip ?_
        refine W.seq (W.block ?_)
        refine W.seq (W.region rfl ?_)
        refine WL.p h Val.mv ?_
        refine WL.p h (Val.ix Try.underlying24 T9 h65 h67 (hrn.slice (by omega)) (by omega)) ?_
        refine WL.p h (Val.ldR A9 hrn rfl (u := .string t) (by rw [Nat.mul_one, List.getElem?_map, ht]; rfl)) ?_
        refine WL.p h Val.as ?_
        refine WL.p h Val.as ?_
        refine WL.nil ?_
        refine W.seq (W.region rfl ?_)
        refine WL.p h (Val.ld 2 A145 rfl h2 rfl) ?_
        refine WL.p h Val.mv ?_
        refine WL.p h (Val.mkI (by kernel_rfl) rfl) ?_
        obtain ⟨F1, hs1, hA, hback⟩ := h.lend
        have htl : (packV (.text t)).length = 1 := by simp [packV]
        refine WL.callC (caps := [pt b5, pt b4]) C99 rfl rfl ((ih 1 (by omega) (.text t) F1 w _ s (.iface 9 (.string t)) rfl hA (by rw [List.length_append]; omega) htl _ rfl).mono ?_)
        rintro e w' ⟨rfl, s', hA⟩
        have h := hback _ _ hA
        refine ⟨_, rfl, ?_⟩
        refine WL.nil ?_
        refine W.draw (fun w => Hp w0 F0 F ([.box b2 [.slice none 0 0] 42, .dead, .box b4 [putF b4 b5] 145, .box b5 [addF b3] 146, .dead, .box b12 [na, va] 112]) w) [] 7 (by kernel_rfl) rfl rfl ?_
        have h := h.drewN 1
        have hS := (h.kill 1).kill 4
        refine WD.take 0 rfl (by kernel_rfl) (fun _ _ _ h => fin_panic h) hS (Val.ld 2 A145 rfl h2 rfl) ?_
        refine WD.take 1 rfl (by kernel_rfl) (fun _ _ _ h => fin_panic h) hS (Val.fa O112_1 h12) ?_
        refine WD.take 2 rfl (by kernel_rfl) (fun _ _ _ h => fin_panic h) hS (Val.ld 5 A109 rfl rfl rfl) ?_
        refine WD.take 3 rfl (by kernel_rfl) (fun _ _ _ h => fin_panic h) hS Val.mv ?_
        refine WD.take 4 rfl (by kernel_rfl) (fun _ _ _ h => fin_panic h) hS (Val.ix Try.underlying109 T71 rfl h67 (hrow.slice (by omega)) (by omega)) ?_
        refine WD.take 5 rfl (by kernel_rfl) (fun _ _ _ h => fin_panic h) hS (Val.ldR A71 hrow rfl (u := c) (by rw [Nat.mul_one]; exact hc)) ?_
        refine WD.one 6 rfl (by kernel_rfl) ?_
        obtain ⟨F1, hs1, hA, hback⟩ := h.lend
        refine WL.callC (caps := [pt b5, pt b4]) C99 rfl rfl ((ih (packV x).length (by omega) x F1 _ _ s' c (Rep.mono hs1 _ _ hrc) hA (by rw [List.length_append, List.length_append, htl]; omega) rfl _ rfl).mono ?_)
        rintro e w' ⟨rfl, s'', hA⟩
        have h := hback _ _ hA
        refine ⟨_, rfl, ?_⟩
        refine WL.nil ?_
        refine ⟨(h.kill 1).kill 4, ?_⟩
        refine WD.nil (by kernel_rfl) ?_
        refine W.region rfl ?_
        refine WL.p h (Val.addi (c := ((i + 1 : Nat) : Int)) h67 rfl (by omega)) ?_
        refine WL.p h Val.mv ?_
        refine WL.nil ?_
        refine ⟨m - 1, by omega, i + 1, s'', by omega, h.cast ?_, h1, h2, h12, h65, h66, rfl⟩
        obtain ⟨hlt', e1⟩ := List.getElem?_eq_some_iff.1 ht
        obtain ⟨hlt2, e2⟩ := List.getElem?_eq_some_iff.1 hx
        rw [List.take_succ_eq_append_getElem hlt', List.take_succ_eq_append_getElem hlt2, packR_app _ _ _ _ (by simp; omega), e1, e2]
        simp [packV]
      · refine WL.nil ?_
        refine W.seq ?_
        refine W.condF rfl ?_
        refine W.exit ?_
        have hi : i = ns.length := by omega
        rw [hi, List.take_length, hnl, List.take_length] at h
        refine W.region rfl ?_
        refine WL.p h (Val.ld 3 A146 rfl h1 rfl) ?_
        refine WL.p h (Val.fa O112_0 h12) ?_
        refine WL.p h (Val.ld 5 A24 rfl rfl rfl) ?_
        refine WL.p h (Val.len Try.underlying24 rfl hrn.val) ?_
        refine WL.p h (Val.muli (c := ((2 * ns.length : Nat) : Int)) rfl rfl (by omega)) ?_
        refine WL.p h (Val.build2 rfl rfl (B79c 6 ((2 * ns.length : Nat) : Int))) ?_
        obtain ⟨F1, hs1, hA, hback⟩ := h.lend
        refine WL.callC (caps := [pt b3]) C98 rfl rfl ((add_calls hA (by rw [List.length_append]; omega) ⟨6, 0, ⟨#[]⟩, ((2 * ns.length : Nat) : Int)⟩ _ rfl).mono ?_)
        rintro e w' ⟨rfl, s', hA⟩
        have h := (hback _ _ hA).keep 5
        refine ⟨_, rfl, ?_⟩
        refine WL.nil ?_
        exact fin0 rfl ⟨rfl, s', h.cast (by simp [packV, L5])⟩

theorem pack_calls (F : Fz) (w0 : World) (hF : Sub F (hv w0)) (v : V) (a : Value) (hr : Rep F v a) (hl : (packV v).length ≤ 1048576) :
    Calls Try.prog 78 #[a] w0 fun e w' => ∃ s, e = .returned (.agg #[s]) ∧ Hp w0 F F [.own s 79 4 (packV v).length (rowA (packV v))] w' := by
  refine calls 12 Try.func78 rfl rfl rfl ?_
  have h := Hp.start hF
  refine W.seq (W.region rfl ?_)
  refine WL.alloc h T42 (fun b2 w h => ?_)
  refine WL.nil ?_
  refine W.seq (W.region rfl ?_)
  refine WL.alloc h T42 (fun b3 w h => ?_)
  refine WL.nil ?_
  refine W.seq (W.region rfl ?_)
  refine WL.alloc h T145 (fun b4 w h => ?_)
  refine WL.nil ?_
  refine W.seq (W.region rfl ?_)
  refine WL.p h (Val.clo (caps := [pt b3]) rfl) ?_
  refine WL.alloc h T146 (fun b5 w h => ?_)
  refine WL.st 3 (v := addF b3) h rfl T146 rfl rfl rfl rfl (fun w h => ?_)
  refine WL.nil ?_
  refine W.seq (W.region rfl ?_)
  refine WL.p h (Val.clo (caps := [pt b5, pt b4]) rfl) ?_
  refine WL.st 2 (v := putF b4 b5) h rfl T145 rfl rfl rfl rfl (fun w h => ?_)
  refine WL.nil ?_
  have h := h.nilRow 79 4
  refine W.seq (W.region rfl ?_)
  refine WL.p h (Val.ld 2 A145 rfl rfl rfl) ?_
  refine WL.p h Val.mv ?_
  refine WL.callC (caps := [pt b5, pt b4]) C99 rfl rfl ((put_calls w0 F b2 b3 b4 b5 _ v F w [] (.slice none 0 0) a hr (h.cast rfl) (by simpa using hl) rfl _ rfl).mono ?_)
  rintro e w' ⟨rfl, s', h⟩
  rw [List.nil_append] at h
  refine ⟨_, rfl, ?_⟩
  refine WL.nil ?_
  refine W.seq (W.region rfl ?_)
  refine WL.p h (Val.ldS 1 A42 T42 rfl rfl rfl) ?_
  refine WL.stS 0 h rfl T42 rfl (vs := [s']) rfl (by intro x hx; simp at hx; subst hx; exact h.own1 4 rfl) rfl rfl (fun w h => ?_)
  refine WL.nil ?_
  refine W.ret ?_
  refine finBox h 0 rfl rfl rfl A42 T42 rfl ⟨s', rfl, ?_⟩
  exact h.reorder (fun _ => 4) (fun i j hi hj _ => by simp at hi hj; omega) (fun i c hc => by
    cases i with
    | zero => simp at hc; subst hc; rfl
    | succ i => simp at hc)
end Go.Proofs.Ytmiihhbgfijcmaa.K

