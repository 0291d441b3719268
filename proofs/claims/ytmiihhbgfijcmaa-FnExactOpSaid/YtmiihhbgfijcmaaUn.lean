/- Un: the reference's and the program's, walked. -/
import Derived.Test.YtmiihhbgfijcmaaMk
namespace Go.Proofs.Ytmiihhbgfijcmaa.K
open Go Go.RowKit
set_option linter.unusedVariables false
set_option linter.unusedSimpArgs false
set_option maxRecDepth 20000
theorem C46 : CF Try.prog 46 := ⟨_, Try.func46, rfl, rfl⟩
theorem C77 : CF Try.prog 77 := ⟨_, Try.func77, rfl, rfl⟩
theorem C47 : CF Try.prog 47 := ⟨_, Try.func47, rfl, rfl⟩
theorem C49 : CF Try.prog 49 := ⟨_, Try.func49, rfl, rfl⟩
theorem C50 : CF Try.prog 50 := ⟨_, Try.func50, rfl, rfl⟩
theorem C22 : CF Try.prog 22 := ⟨_, Try.func22, rfl, rfl⟩
theorem C52 : CF Try.prog 52 := ⟨_, Try.func52, rfl, rfl⟩
theorem C51 : CF Try.prog 51 := ⟨_, Try.func51, rfl, rfl⟩
theorem C23 : CF Try.prog 23 := ⟨_, Try.func23, rfl, rfl⟩
theorem B42e : Try.prog.built 42 [] = some #[.slice none 0 0] := by kernel_rfl
def wType : ByteArray := ⟨#[116, 121, 112, 101]⟩
def wRange : ByteArray := ⟨#[114, 97, 110, 103, 101]⟩
def negI (n : Int) : Int := IntKind.i64.wrap (-n)
def unA (op : Int) (a : At) : List At × ByteArray :=
  if op = 1 ∧ a.k = 2 then ([⟨2, if a.n = 0 then 1 else 0, ⟨#[]⟩, 0⟩], ⟨#[]⟩)
  else if op = 2 ∧ a.k = 3 then (if a.n = -9223372036854775808 then ([], wRange) else ([⟨3, negI a.n, ⟨#[]⟩, 0⟩], ⟨#[]⟩))
  else ([], wType)
def unP (op : Int) (es : List At) : List At × ByteArray := match treeP es with
  | none => ([], wType)
  | some t => unA op t.atom
theorem nilF (F : Fz) (size : Nat) : FRow F (.slice none 0 0) 0 size [] := ⟨by simp, by omega, ⟨none, 0, rfl, Nat.le_refl _⟩, .inl rfl⟩
/-- What a call that hands back one value of new atoms tells. -/
def PS (F : Fz) (w0 : World) (l : List At) (e : Ending) (w : World) : Prop := ∃ F' s, e = .returned (.agg #[s]) ∧ Ext F w0 F' w ∧ FRow F' s l.length 4 (rowA l)
def PSW (F : Fz) (w0 : World) (l : List At × ByteArray) (e : Ending) (w : World) : Prop := ∃ F' s, e = .returned (.tuple #[.agg #[s], .string l.2]) ∧ Ext F w0 F' w ∧ FRow F' s l.1.length 4 (rowA l.1)
theorem FRow.one {F : Fz} {v : Value} {n size : Nat} {xs : List Value} (h : FRow F v n size xs) : v.oneCell' = true := by obtain ⟨A, c, rfl, _⟩ := h.val; rfl
theorem one1 {s : Value} (h : s.oneCell' = true) : ∀ v ∈ [s], v.oneCell' = true := by simpa using h
theorem l6Kind_calls (F : Fz) (w0 : World) (hF : Sub F (hv w0)) (v : Value) (es : List At) (hr : FRow F v es.length 4 (rowA es)) (a : At) (ha : es[es.length - 1]? = some a) : Calls Try.prog 46 #[.agg #[v]] w0 (PI F w0 a.k) := by
  refine calls 6 Try.func46 rfl rfl rfl ?_
  have h := Hp.start hF
  refine W.seq (W.region rfl ?_)
  refine WL.box h rfl (fun b1 w h => ?_)
  refine WL.p h Val.as ?_
  refine WL.nil ?_
  refine W.seq (W.region rfl ?_)
  refine WL.p h (Val.ldS 0 A42 T42 rfl rfl rfl) ?_
  refine WL.call C48 (args := [.agg #[v]]) rfl ((l5Last_calls F w h.sub v es hr a ha).mono ?_)
  rintro e w' ⟨rfl, hE⟩
  have h := h.call hE
  refine ⟨_, rfl, ?_⟩
  refine WL.p h (Val.fld E79_0 rfl rfl) ?_
  refine WL.p h Val.as ?_
  refine WL.nil ?_
  refine W.ret ?_
  exact fin1 (v := .int .i64 a.k) rfl rfl (PI.mk h.toExt)
theorem l5One_calls (F : Fz) (w0 : World) (hF : Sub F (hv w0)) (a : At) : Calls Try.prog 77 #[.agg a.cells.toArray] w0 (PS F w0 [a]) := by
  refine calls 6 Try.func77 rfl rfl rfl ?_
  have h := Hp.start hF
  refine W.seq (W.region rfl ?_)
  refine WL.box h (cs := a.cells) rfl (fun b1 w h => ?_)
  refine WL.alloc h T42 (fun b2 w h => ?_)
  refine WL.nil ?_
  refine W.seq (W.region rfl ?_)
  refine WL.p h (Val.ldS 0 A79 T79 rfl rfl rfl) ?_
  refine WL.bs1 h Try.underlying40 T79 (by decide) (cs := a.cells) rfl rfl (fun b3 w h => ?_)
  refine WL.p h (Val.build1 rfl (B42 _ _ _)) ?_
  refine WL.stS 1 h rfl T42 rfl (vs := [.slice (some ⟨b3, 0, none⟩) 1 1]) rfl (one1 rfl) rfl rfl (fun w h => ?_)
  refine WL.nil ?_
  obtain ⟨F', hs, h, hrow⟩ := h.freezeBox (m := 1) (size := 4) 2 rfl rfl (by omega)
  refine W.ret ?_
  exact finBox h 1 rfl rfl rfl A42 T42 rfl ⟨F', _, rfl, h.toExt, by simpa [rowA] using hrow⟩
theorem l5Bool_calls (F : Fz) (w0 : World) (hF : Sub F (hv w0)) (b : Bool) : Calls Try.prog 47 #[.bool b] w0 (PS F w0 [⟨2, if b then 1 else 0, ⟨#[]⟩, 0⟩]) := by
  refine calls 8 Try.func47 rfl rfl rfl ?_
  have h := Hp.start hF
  refine W.seq (W.region rfl ?_)
  refine WL.alloc h T42 (fun b2 w h => ?_)
  refine WL.nil ?_
  refine W.seq (W.seq (W.region rfl ?_))
  refine WL.p h Val.mv ?_
  refine WL.nil ?_
  cases b with
  | true =>
    refine W.condT rfl ?_
    refine W.seq (W.region rfl ?_)
    refine WL.p h (Val.build2 rfl rfl (B79n 2 1)) ?_
    refine WL.call C77 (args := [.agg (⟨2, 1, ⟨#[]⟩, 0⟩ : At).cells.toArray]) rfl ((l5One_calls F w h.sub _).mono ?_)
    rintro e w' ⟨F', s, rfl, hE, hrow⟩
    have h := h.call hE
    refine ⟨_, rfl, ?_⟩
    refine WL.stS 0 h rfl T42 rfl (vs := [s]) rfl (one1 hrow.one) rfl rfl (fun w h => ?_)
    refine WL.nil ?_
    refine W.ret ?_
    exact finBox h 0 rfl rfl rfl A42 T42 rfl ⟨F', s, rfl, h.toExt, hrow⟩
  | false =>
    refine W.condF rfl ?_
    refine W.skip ?_
    refine W.seq (W.region rfl ?_)
    refine WL.p h (Val.build1 rfl (B79k 2)) ?_
    refine WL.call C77 (args := [.agg (⟨2, 0, ⟨#[]⟩, 0⟩ : At).cells.toArray]) rfl ((l5One_calls F w h.sub _).mono ?_)
    rintro e w' ⟨F', s, rfl, hE, hrow⟩
    have h := h.call hE
    refine ⟨_, rfl, ?_⟩
    refine WL.stS 0 h rfl T42 rfl (vs := [s]) rfl (one1 hrow.one) rfl rfl (fun w h => ?_)
    refine WL.nil ?_
    refine W.ret ?_
    exact finBox h 0 rfl rfl rfl A42 T42 rfl ⟨F', s, rfl, h.toExt, hrow⟩
theorem l5Int_calls (F : Fz) (w0 : World) (hF : Sub F (hv w0)) (n : Int) : Calls Try.prog 50 #[.int .i64 n] w0 (PS F w0 [⟨3, n, ⟨#[]⟩, 0⟩]) := by
  refine calls 6 Try.func50 rfl rfl rfl ?_
  have h := Hp.start hF
  refine W.seq (W.region rfl ?_)
  refine WL.alloc h T42 (fun b2 w h => ?_)
  refine WL.nil ?_
  refine W.seq (W.region rfl ?_)
  refine WL.p h Val.mv ?_
  refine WL.p h (Val.build2 rfl rfl (B79n 3 n)) ?_
  refine WL.call C77 (args := [.agg (⟨3, n, ⟨#[]⟩, 0⟩ : At).cells.toArray]) rfl ((l5One_calls F w h.sub _).mono ?_)
  rintro e w' ⟨F', s, rfl, hE, hrow⟩
  have h := h.call hE
  refine ⟨_, rfl, ?_⟩
  refine WL.stS 0 h rfl T42 rfl (vs := [s]) rfl (one1 hrow.one) rfl rfl (fun w h => ?_)
  refine WL.nil ?_
  refine W.ret ?_
  exact finBox h 0 rfl rfl rfl A42 T42 rfl ⟨F', s, rfl, h.toExt, hrow⟩
theorem l6No_calls (F : Fz) (w0 : World) (hF : Sub F (hv w0)) (s : ByteArray) : Calls Try.prog 49 #[.string s] w0 fun e w' => e = .returned (.tuple #[.agg #[.slice none 0 0], .string s]) ∧ Ext F w0 F w' := by
  refine calls 6 Try.func49 rfl rfl rfl ?_
  have h := Hp.start hF
  refine W.seq (W.region rfl ?_)
  refine WL.alloc h T42 (fun b2 w h => ?_)
  refine WL.p h Val.as ?_
  refine WL.nil ?_
  refine W.seq (W.region rfl ?_)
  refine WL.p h (Val.build0 B42e) ?_
  refine WL.p h Val.mv ?_
  refine WL.stS 0 h rfl T42 rfl (vs := [.slice none 0 0]) rfl (one1 rfl) rfl rfl (fun w h => ?_)
  refine WL.p h Val.as ?_
  refine WL.nil ?_
  refine W.ret ?_
  exact finBox2 h 0 rfl rfl rfl A42 T42 rfl rfl ⟨rfl, h.toExt⟩

theorem PSW.no {F w0 w} {F' : Fz} {l : List At × ByteArray} {s : ByteArray} (hE : Ext F w0 F' w) (h : l = ([], s)) : PSW F w0 l (.returned (.tuple #[.agg #[.slice none 0 0], .string s])) w := ⟨F', _, by rw [h], hE, by rw [h]; exact nilF _ _⟩
theorem specUn_calls (F : Fz) (w0 : World) (hF : Sub F (hv w0)) (op : Int) (v : Value) (es : List At) (hr : FRow F v es.length 4 (rowA es)) (hB : es.length ≤ 1048576) : Calls Try.prog 22 #[.int .i64 op, .agg #[v]] w0 (PSW F w0 (unP op es)) := by
  refine calls 48 Try.func22 rfl rfl rfl ?_
  have h := Hp.start hF
  refine W.seq (W.region rfl ?_)
  refine WL.box h rfl (fun b3 w h => ?_)
  refine WL.alloc h T42 (fun b4 w h => ?_)
  refine WL.p h Val.as ?_
  refine WL.nil ?_
  refine W.seq (W.seq (W.region rfl ?_))
  refine WL.p h (Val.ldS 0 A42 T42 rfl rfl rfl) ?_
  refine WL.call C16 (args := [.agg #[v]]) rfl ((specValidValue_calls F w h.sub v es hr hB).mono ?_)
  rintro e w' ⟨v1, rfl, hv1, hE⟩
  have h := h.call hE
  refine ⟨_, rfl, ?_⟩
  refine WL.p h Val.mv ?_
  cases ht : treeP es with
  | none =>
    have hn := treeP_none ht
    obtain rfl : v1 = false := by cases v1; rfl; exact absurd hn (hv1.1 rfl)
    refine WL.no rfl (WL.no rfl (?_))
    refine WL.p h (Val.pick rfl) ?_
    refine WL.p h Val.mv ?_
    refine WL.no rfl (WL.no rfl (WL.no rfl (?_)))
    refine WL.p h (Val.pick rfl) ?_
    refine WL.nil ?_
    refine W.condF rfl ?_
    refine W.skip ?_
    refine W.seq (W.seq (W.region rfl ?_))
    refine WL.p h (Val.ldS 0 A42 T42 rfl rfl rfl) ?_
    refine WL.call C16 (args := [.agg #[v]]) rfl ((specValidValue_calls F _ h.sub v es hr hB).mono ?_)
    rintro e w' ⟨v2, rfl, hv2, hE⟩
    have h := h.call hE
    refine ⟨_, rfl, ?_⟩
    obtain rfl : v2 = false := by cases v2; rfl; exact absurd hn (hv2.1 rfl)
    refine WL.p h Val.mv ?_
    refine WL.no rfl (WL.no rfl (?_))
    refine WL.p h (Val.pick rfl) ?_
    refine WL.p h Val.mv ?_
    refine WL.no rfl (WL.no rfl (WL.no rfl (?_)))
    refine WL.p h (Val.pick rfl) ?_
    refine WL.nil ?_
    refine W.condF rfl ?_
    refine W.skip ?_
    refine W.seq (W.region rfl ?_)
    refine WL.call C49 (args := [.string wType]) rfl ((l6No_calls F _ h.sub wType).mono ?_)
    rintro e w' ⟨rfl, hE⟩
    have h := h.call hE
    refine ⟨_, rfl, ?_⟩
    refine WL.p h (Val.ext (v := .agg #[.slice none 0 0]) rfl rfl) ?_
    refine WL.p h (Val.ext (v := .string wType) rfl rfl) ?_
    refine WL.stS 1 h rfl T42 rfl (vs := [.slice none 0 0]) rfl (one1 rfl) rfl rfl (fun w h => ?_)
    refine WL.p h Val.as ?_
    refine WL.nil ?_
    refine W.ret ?_
    exact finBox2 h 1 rfl rfl rfl A42 T42 rfl rfl (PSW.no h.toExt (by rw [unP, ht]))
  | some t =>
    obtain ⟨rfl, hw, hlen, it, hit, hun⟩ := treeP_some ht
    obtain rfl : v1 = true := hv1.2 (by rw [hun]; simp)
    have hlast := enc_last t
    have hP : unP op t.enc = unA op t.atom := by rw [unP, ht]
    rw [hP]
    refine WL.p h Val.mv ?_
    refine WL.p h (Val.eq (a := op) (b := 1) rfl rfl) ?_
    refine WL.dec (fun p1 => ?_) (fun p1 => ?_)
    · refine WL.p h (Val.pick rfl) ?_
      refine WL.p h Val.mv ?_
      refine WL.p h (Val.ldS 0 A42 T42 rfl rfl rfl) ?_
      refine WL.call C46 (args := [.agg #[v]]) rfl ((l6Kind_calls F _ h.sub v _ hr t.atom hlast).mono ?_)
      rintro e w' ⟨rfl, hE⟩
      have h := h.call hE
      refine ⟨_, rfl, ?_⟩
      refine WL.p h (Val.eq (a := t.atom.k) (b := 2) rfl rfl) ?_
      refine WL.dec (fun p0 => ?_) (fun p0 => ?_)
      · refine WL.p h (Val.pick rfl) ?_
        refine WL.nil ?_
        refine W.condT rfl ?_
        refine W.seq (W.region rfl ?_)
        refine WL.p h (Val.ldS 0 A42 T42 rfl rfl rfl) ?_
        refine WL.call C48 (args := [.agg #[v]]) rfl ((l5Last_calls F _ h.sub v _ hr t.atom hlast).mono ?_)
        rintro e w' ⟨rfl, hE⟩
        have h := h.call hE
        refine ⟨_, rfl, ?_⟩
        refine WL.p h (Val.fld E79_1 rfl rfl) ?_
        refine WL.p h (Val.eq (a := t.atom.n) (b := 0) rfl rfl) ?_
        refine WL.call C47 (args := [.bool (decide (t.atom.n = 0))]) rfl ((l5Bool_calls F _ h.sub _).mono ?_)
        rintro e w' ⟨F1, s, rfl, hE, hrow⟩
        have h := h.call hE
        refine ⟨_, rfl, ?_⟩
        refine WL.stS 1 h rfl T42 rfl (vs := [s]) rfl (one1 hrow.one) rfl rfl (fun w h => ?_)
        refine WL.p h Val.as ?_
        refine WL.nil ?_
        refine W.ret ?_
        have hu : unA op t.atom = ([⟨2, if decide (t.atom.n = 0) = true then 1 else 0, ⟨#[]⟩, 0⟩], ⟨#[]⟩) := by rw [unA, if_pos ⟨p1, p0⟩]; simp
        rw [hu]
        exact finBox2 h 1 rfl rfl rfl A42 T42 rfl rfl ⟨F1, s, rfl, h.toExt, hrow⟩
      · refine WL.p h (Val.pick rfl) ?_
        refine WL.nil ?_
        refine W.condF rfl ?_
        refine W.skip ?_
        refine W.seq (W.seq (W.region rfl ?_))
        refine WL.p h (Val.ldS 0 A42 T42 rfl rfl rfl) ?_
        refine WL.call C16 (args := [.agg #[v]]) rfl ((specValidValue_calls F _ h.sub v _ hr hB).mono ?_)
        rintro e w' ⟨v2, rfl, hv2, hE⟩
        have h := h.call hE
        refine ⟨_, rfl, ?_⟩
        obtain rfl : v2 = true := hv2.2 (by rw [hun]; simp)
        refine WL.p h Val.mv ?_
        refine WL.p h Val.mv ?_
        refine WL.p h (Val.eq (a := op) (b := 2) rfl rfl) ?_
        refine WL.dec (fun p2 => ?_) (fun p2 => ?_)
        · refine WL.p h (Val.pick rfl) ?_
          refine WL.p h Val.mv ?_
          refine WL.p h (Val.ldS 0 A42 T42 rfl rfl rfl) ?_
          refine WL.call C46 (args := [.agg #[v]]) rfl ((l6Kind_calls F _ h.sub v _ hr t.atom hlast).mono ?_)
          rintro e w' ⟨rfl, hE⟩
          have h := h.call hE
          refine ⟨_, rfl, ?_⟩
          refine WL.p h (Val.eq (a := t.atom.k) (b := 3) rfl rfl) ?_
          refine WL.dec (fun p3 => ?_) (fun p3 => ?_)
          · refine WL.p h (Val.pick rfl) ?_
            refine WL.nil ?_
            refine W.condT rfl ?_
            refine W.seq (W.seq (W.region rfl ?_))
            refine WL.p h (Val.ldS 0 A42 T42 rfl rfl rfl) ?_
            refine WL.call C48 (args := [.agg #[v]]) rfl ((l5Last_calls F _ h.sub v _ hr t.atom hlast).mono ?_)
            rintro e w' ⟨rfl, hE⟩
            have h := h.call hE
            refine ⟨_, rfl, ?_⟩
            refine WL.p h (Val.fld E79_1 rfl rfl) ?_
            refine WL.p h (Val.eq (a := t.atom.n) (b := -9223372036854775808) rfl rfl) ?_
            refine WL.dec (fun p4 => ?_) (fun p4 => ?_)
            · refine WL.nil ?_
              refine W.condT rfl ?_
              refine W.seq (W.region rfl ?_)
              refine WL.call C49 (args := [.string wRange]) rfl ((l6No_calls F _ h.sub wRange).mono ?_)
              rintro e w' ⟨rfl, hE⟩
              have h := h.call hE
              refine ⟨_, rfl, ?_⟩
              refine WL.p h (Val.ext (v := .agg #[.slice none 0 0]) rfl rfl) ?_
              refine WL.p h (Val.ext (v := .string wRange) rfl rfl) ?_
              refine WL.stS 1 h rfl T42 rfl (vs := [.slice none 0 0]) rfl (one1 rfl) rfl rfl (fun w h => ?_)
              refine WL.p h Val.as ?_
              refine WL.nil ?_
              refine W.ret ?_
              exact finBox2 h 1 rfl rfl rfl A42 T42 rfl rfl (PSW.no h.toExt (by rw [unA, if_neg (by omega), if_pos ⟨p2, p3⟩, if_pos p4]))
            refine WL.nil ?_
            refine W.condF rfl ?_
            refine W.skip ?_
            refine W.seq (W.region rfl ?_)
            refine WL.p h (Val.ldS 0 A42 T42 rfl rfl rfl) ?_
            refine WL.call C48 (args := [.agg #[v]]) rfl ((l5Last_calls F _ h.sub v _ hr t.atom hlast).mono ?_)
            rintro e w' ⟨rfl, hE⟩
            have h := h.call hE
            refine ⟨_, rfl, ?_⟩
            refine WL.p h (Val.fld E79_1 rfl rfl) ?_
            refine WL.p h (Val.neg rfl) ?_
            refine WL.call C50 (args := [.int .i64 (negI t.atom.n)]) rfl ((l5Int_calls F _ h.sub (negI t.atom.n)).mono ?_)
            rintro e w' ⟨F1, s, rfl, hE, hrow⟩
            have h := h.call hE
            refine ⟨_, rfl, ?_⟩
            refine WL.stS 1 h rfl T42 rfl (vs := [s]) rfl (one1 hrow.one) rfl rfl (fun w h => ?_)
            refine WL.p h Val.as ?_
            refine WL.nil ?_
            refine W.ret ?_
            have hu : unA op t.atom = ([⟨3, negI t.atom.n, ⟨#[]⟩, 0⟩], ⟨#[]⟩) := by rw [unA, if_neg (by omega), if_pos ⟨p2, p3⟩, if_neg p4]
            rw [hu]
            exact finBox2 h 1 rfl rfl rfl A42 T42 rfl rfl ⟨F1, s, rfl, h.toExt, hrow⟩
          · refine WL.p h (Val.pick rfl) ?_
            refine WL.nil ?_
            refine W.condF rfl ?_
            refine W.skip ?_
            refine W.seq (W.region rfl ?_)
            refine WL.call C49 (args := [.string wType]) rfl ((l6No_calls F _ h.sub wType).mono ?_)
            rintro e w' ⟨rfl, hE⟩
            have h := h.call hE
            refine ⟨_, rfl, ?_⟩
            refine WL.p h (Val.ext (v := .agg #[.slice none 0 0]) rfl rfl) ?_
            refine WL.p h (Val.ext (v := .string wType) rfl rfl) ?_
            refine WL.stS 1 h rfl T42 rfl (vs := [.slice none 0 0]) rfl (one1 rfl) rfl rfl (fun w h => ?_)
            refine WL.p h Val.as ?_
            refine WL.nil ?_
            refine W.ret ?_
            exact finBox2 h 1 rfl rfl rfl A42 T42 rfl rfl (PSW.no h.toExt (by rw [unA, if_neg (by omega), if_neg (by omega)]))
        · refine WL.p h (Val.pick rfl) ?_
          refine WL.p h Val.mv ?_
          refine WL.no rfl (WL.no rfl (WL.no rfl (?_)))
          refine WL.p h (Val.pick rfl) ?_
          refine WL.nil ?_
          refine W.condF rfl ?_
          refine W.skip ?_
          refine W.seq (W.region rfl ?_)
          refine WL.call C49 (args := [.string wType]) rfl ((l6No_calls F _ h.sub wType).mono ?_)
          rintro e w' ⟨rfl, hE⟩
          have h := h.call hE
          refine ⟨_, rfl, ?_⟩
          refine WL.p h (Val.ext (v := .agg #[.slice none 0 0]) rfl rfl) ?_
          refine WL.p h (Val.ext (v := .string wType) rfl rfl) ?_
          refine WL.stS 1 h rfl T42 rfl (vs := [.slice none 0 0]) rfl (one1 rfl) rfl rfl (fun w h => ?_)
          refine WL.p h Val.as ?_
          refine WL.nil ?_
          refine W.ret ?_
          exact finBox2 h 1 rfl rfl rfl A42 T42 rfl rfl (PSW.no h.toExt (by rw [unA, if_neg (by omega), if_neg (by omega)]))
    · refine WL.p h (Val.pick rfl) ?_
      refine WL.p h Val.mv ?_
      refine WL.no rfl (WL.no rfl (WL.no rfl (?_)))
      refine WL.p h (Val.pick rfl) ?_
      refine WL.nil ?_
      refine W.condF rfl ?_
      refine W.skip ?_
      refine W.seq (W.seq (W.region rfl ?_))
      refine WL.p h (Val.ldS 0 A42 T42 rfl rfl rfl) ?_
      refine WL.call C16 (args := [.agg #[v]]) rfl ((specValidValue_calls F _ h.sub v _ hr hB).mono ?_)
      rintro e w' ⟨v2, rfl, hv2, hE⟩
      have h := h.call hE
      refine ⟨_, rfl, ?_⟩
      obtain rfl : v2 = true := hv2.2 (by rw [hun]; simp)
      refine WL.p h Val.mv ?_
      refine WL.p h Val.mv ?_
      refine WL.p h (Val.eq (a := op) (b := 2) rfl rfl) ?_
      refine WL.dec (fun p2 => ?_) (fun p2 => ?_)
      · refine WL.p h (Val.pick rfl) ?_
        refine WL.p h Val.mv ?_
        refine WL.p h (Val.ldS 0 A42 T42 rfl rfl rfl) ?_
        refine WL.call C46 (args := [.agg #[v]]) rfl ((l6Kind_calls F _ h.sub v _ hr t.atom hlast).mono ?_)
        rintro e w' ⟨rfl, hE⟩
        have h := h.call hE
        refine ⟨_, rfl, ?_⟩
        refine WL.p h (Val.eq (a := t.atom.k) (b := 3) rfl rfl) ?_
        refine WL.dec (fun p3 => ?_) (fun p3 => ?_)
        · refine WL.p h (Val.pick rfl) ?_
          refine WL.nil ?_
          refine W.condT rfl ?_
          refine W.seq (W.seq (W.region rfl ?_))
          refine WL.p h (Val.ldS 0 A42 T42 rfl rfl rfl) ?_
          refine WL.call C48 (args := [.agg #[v]]) rfl ((l5Last_calls F _ h.sub v _ hr t.atom hlast).mono ?_)
          rintro e w' ⟨rfl, hE⟩
          have h := h.call hE
          refine ⟨_, rfl, ?_⟩
          refine WL.p h (Val.fld E79_1 rfl rfl) ?_
          refine WL.p h (Val.eq (a := t.atom.n) (b := -9223372036854775808) rfl rfl) ?_
          refine WL.dec (fun p4 => ?_) (fun p4 => ?_)
          · refine WL.nil ?_
            refine W.condT rfl ?_
            refine W.seq (W.region rfl ?_)
            refine WL.call C49 (args := [.string wRange]) rfl ((l6No_calls F _ h.sub wRange).mono ?_)
            rintro e w' ⟨rfl, hE⟩
            have h := h.call hE
            refine ⟨_, rfl, ?_⟩
            refine WL.p h (Val.ext (v := .agg #[.slice none 0 0]) rfl rfl) ?_
            refine WL.p h (Val.ext (v := .string wRange) rfl rfl) ?_
            refine WL.stS 1 h rfl T42 rfl (vs := [.slice none 0 0]) rfl (one1 rfl) rfl rfl (fun w h => ?_)
            refine WL.p h Val.as ?_
            refine WL.nil ?_
            refine W.ret ?_
            exact finBox2 h 1 rfl rfl rfl A42 T42 rfl rfl (PSW.no h.toExt (by rw [unA, if_neg (by omega), if_pos ⟨p2, p3⟩, if_pos p4]))
          refine WL.nil ?_
          refine W.condF rfl ?_
          refine W.skip ?_
          refine W.seq (W.region rfl ?_)
          refine WL.p h (Val.ldS 0 A42 T42 rfl rfl rfl) ?_
          refine WL.call C48 (args := [.agg #[v]]) rfl ((l5Last_calls F _ h.sub v _ hr t.atom hlast).mono ?_)
          rintro e w' ⟨rfl, hE⟩
          have h := h.call hE
          refine ⟨_, rfl, ?_⟩
          refine WL.p h (Val.fld E79_1 rfl rfl) ?_
          refine WL.p h (Val.neg rfl) ?_
          refine WL.call C50 (args := [.int .i64 (negI t.atom.n)]) rfl ((l5Int_calls F _ h.sub (negI t.atom.n)).mono ?_)
          rintro e w' ⟨F1, s, rfl, hE, hrow⟩
          have h := h.call hE
          refine ⟨_, rfl, ?_⟩
          refine WL.stS 1 h rfl T42 rfl (vs := [s]) rfl (one1 hrow.one) rfl rfl (fun w h => ?_)
          refine WL.p h Val.as ?_
          refine WL.nil ?_
          refine W.ret ?_
          have hu : unA op t.atom = ([⟨3, negI t.atom.n, ⟨#[]⟩, 0⟩], ⟨#[]⟩) := by rw [unA, if_neg (by omega), if_pos ⟨p2, p3⟩, if_neg p4]
          rw [hu]
          exact finBox2 h 1 rfl rfl rfl A42 T42 rfl rfl ⟨F1, s, rfl, h.toExt, hrow⟩
        · refine WL.p h (Val.pick rfl) ?_
          refine WL.nil ?_
          refine W.condF rfl ?_
          refine W.skip ?_
          refine W.seq (W.region rfl ?_)
          refine WL.call C49 (args := [.string wType]) rfl ((l6No_calls F _ h.sub wType).mono ?_)
          rintro e w' ⟨rfl, hE⟩
          have h := h.call hE
          refine ⟨_, rfl, ?_⟩
          refine WL.p h (Val.ext (v := .agg #[.slice none 0 0]) rfl rfl) ?_
          refine WL.p h (Val.ext (v := .string wType) rfl rfl) ?_
          refine WL.stS 1 h rfl T42 rfl (vs := [.slice none 0 0]) rfl (one1 rfl) rfl rfl (fun w h => ?_)
          refine WL.p h Val.as ?_
          refine WL.nil ?_
          refine W.ret ?_
          exact finBox2 h 1 rfl rfl rfl A42 T42 rfl rfl (PSW.no h.toExt (by rw [unA, if_neg (by omega), if_neg (by omega)]))
      · refine WL.p h (Val.pick rfl) ?_
        refine WL.p h Val.mv ?_
        refine WL.no rfl (WL.no rfl (WL.no rfl (?_)))
        refine WL.p h (Val.pick rfl) ?_
        refine WL.nil ?_
        refine W.condF rfl ?_
        refine W.skip ?_
        refine W.seq (W.region rfl ?_)
        refine WL.call C49 (args := [.string wType]) rfl ((l6No_calls F _ h.sub wType).mono ?_)
        rintro e w' ⟨rfl, hE⟩
        have h := h.call hE
        refine ⟨_, rfl, ?_⟩
        refine WL.p h (Val.ext (v := .agg #[.slice none 0 0]) rfl rfl) ?_
        refine WL.p h (Val.ext (v := .string wType) rfl rfl) ?_
        refine WL.stS 1 h rfl T42 rfl (vs := [.slice none 0 0]) rfl (one1 rfl) rfl rfl (fun w h => ?_)
        refine WL.p h Val.as ?_
        refine WL.nil ?_
        refine W.ret ?_
        exact finBox2 h 1 rfl rfl rfl A42 T42 rfl rfl (PSW.no h.toExt (by rw [unA, if_neg (by omega), if_neg (by omega)]))
end Go.Proofs.Ytmiihhbgfijcmaa.K

