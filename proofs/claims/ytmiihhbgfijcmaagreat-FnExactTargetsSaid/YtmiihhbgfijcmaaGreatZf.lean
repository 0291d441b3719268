/- Targets: the reference's target of a record, walked. -/
import Derived.Test.YtmiihhbgfijcmaaGreatKz
namespace Go.Proofs.YtmiihhbgfijcmaaGreat.K
open Go Go.RowKit
set_option linter.unusedVariables false
set_option linter.unusedSimpArgs false
set_option maxRecDepth 20000
theorem C39z : CF Tryz.prog 39 := ⟨_, Tryz.func39, rfl, rfl⟩
theorem C40z : CF Tryz.prog 40 := ⟨_, Tryz.func40, rfl, rfl⟩
structure Tg where
  name : ByteArray
  tool : ByteArray
  arg : ByteArray
  ins : List ByteArray
  outs : List ByteArray
def keys5 : List ByteArray := [⟨#[97, 114, 103]⟩, ⟨#[105, 110, 115]⟩, ⟨#[110, 97, 109, 101]⟩, ⟨#[111, 117, 116, 115]⟩, ⟨#[116, 111, 111, 108]⟩]
open Classical in
noncomputable def tgA (t : T) : Option Tg :=
  if t.atom.k ≠ 6 then none else if ¬ (∀ (i : Nat) x, t.kids[2 * i]? = some x → x.atom.t ∈ keys5) then none
  else if (textA t.kids ⟨#[110, 97, 109, 101]⟩ true).2 && (textA t.kids ⟨#[116, 111, 111, 108]⟩ true).2 && (textA t.kids ⟨#[97, 114, 103]⟩ false).2 && (listA t.kids ⟨#[105, 110, 115]⟩ false).2 && (listA t.kids ⟨#[111, 117, 116, 115]⟩ true).2 then
    some ⟨(textA t.kids ⟨#[110, 97, 109, 101]⟩ true).1, (textA t.kids ⟨#[116, 111, 111, 108]⟩ true).1, (textA t.kids ⟨#[97, 114, 103]⟩ false).1, (listA t.kids ⟨#[105, 110, 115]⟩ false).1, (listA t.kids ⟨#[111, 117, 116, 115]⟩ true).1⟩
  else none
theorem z5one : ∀ v ∈ ([.string ⟨#[]⟩, .string ⟨#[]⟩, .string ⟨#[]⟩, .slice none 0 0, .slice none 0 0] : List Value), v.oneCell' = true := by simp [Value.oneCell']
def TgR (F : Fz) (g : Tg) (cs : List Value) : Prop := ∃ si so, cs = [.string g.name, .string g.tool, .string g.arg, si, so] ∧ FRow F si g.ins.length 1 (rowS g.ins) ∧ FRow F so g.outs.length 1 (rowS g.outs)
def PTg (F : Fz) (w0 : World) (r : Option Tg) (e : Ending) (w : World) : Prop :=
  ∃ F' cs b, e = .returned (.tuple #[.agg (cs : List Value).toArray, .bool b]) ∧ Ext F w0 F' w ∧ (∀ v ∈ cs, v.oneCell' = true) ∧ cs.length = 5 ∧ (match r with | none => b = false | some g => b = true ∧ TgR F' g cs)
theorem PTg.no {F w0 w} {F' : Fz} {r : Option Tg} {cs : List Value} (hE : Ext F w0 F' w) (h1 : ∀ v ∈ cs, v.oneCell' = true) (hl : cs.length = 5) (h : r = none) : PTg F w0 r (.returned (.tuple #[.agg cs.toArray, .bool false])) w := ⟨F', cs, false, rfl, hE, h1, hl, by rw [h]⟩
theorem PTg.yes {F w0 w} {F' : Fz} {r : Option Tg} {a1 a2 a3 : ByteArray} {a4 a5 : List ByteArray} {si so : Value} (hE : Ext F w0 F' w) (h1 : ∀ v ∈ ([.string a1, .string a2, .string a3, si, so] : List Value), v.oneCell' = true) (h : r = some ⟨a1, a2, a3, a4, a5⟩) (hi : FRow F' si a4.length 1 (rowS a4)) (ho : FRow F' so a5.length 1 (rowS a5)) : PTg F w0 r (.returned (.tuple #[.agg ([.string a1, .string a2, .string a3, si, so] : List Value).toArray, .bool true])) w := ⟨F', _, true, rfl, hE, h1, rfl, by rw [h]; exact ⟨rfl, si, so, rfl, hi, ho⟩⟩
theorem five_one {a b c : ByteArray} {u v : Value} (hu : u.oneCell' = true) (hv : v.oneCell' = true) : ∀ x ∈ ([.string a, .string b, .string c, u, v] : List Value), x.oneCell' = true := by
  intro x hx
  simp only [List.mem_cons, List.not_mem_nil, or_false] at hx
  rcases hx with rfl | rfl | rfl | rfl | rfl <;> first | rfl | exact hu | exact hv
theorem l9TextE (F : Fz) (w0 : World) (hF : Sub F (hv w0)) (v : Value) (t : T) (q : Nat) (ht : t.Wf) (hr : FRow F v t.enc.length 4 (rowA t.enc)) (hB : t.enc.length ≤ 1048576) (hq : t.kids.length = 2 * q) (name : ByteArray) (need : Bool) : Calls Tryz.prog 39 #[.agg #[v], .string name, .bool need] w0 fun e w' => ∃ a b, e = .returned (.tuple #[.string a, .bool b]) ∧ textA t.kids name need = (a, b) ∧ Ext F w0 F w' :=
  (l9Text_calls F w0 hF v t q ht hr hB hq name need).mono fun e w' ⟨h1, h2⟩ => ⟨_, _, h1, rfl, h2⟩
theorem l9ListE (F : Fz) (w0 : World) (hF : Sub F (hv w0)) (v : Value) (t : T) (q : Nat) (ht : t.Wf) (htk : ∀ k ∈ t.kids, T.Wf k) (hkl : (T.encs t.kids).length ≤ 1000) (hr : FRow F v t.enc.length 4 (rowA t.enc)) (hB : t.enc.length ≤ 1048576) (hq : t.kids.length = 2 * q) (name : ByteArray) (need : Bool) : Calls Tryz.prog 40 #[.agg #[v], .string name, .bool need] w0 fun e w' => ∃ a b F' s, e = .returned (.tuple #[s, .bool b]) ∧ listA t.kids name need = (a, b) ∧ Ext F w0 F' w' ∧ FRow F' s a.length 1 (rowS a) :=
  (l9List_calls F w0 hF v t q ht htk hkl hr hB hq name need).mono fun e w' ⟨F', s, h1, h2, h3⟩ => ⟨_, _, F', s, h1, rfl, h2, h3⟩
set_option maxHeartbeats 4000000 in
theorem l9Target_calls (F : Fz) (w0 : World) (hF : Sub F (hv w0)) (v : Value) (t : T) (hvt : Vt t) (hr : FRow F v t.enc.length 4 (rowA t.enc)) : Calls Tryz.prog 15 #[.agg #[v]] w0 (PTg F w0 (tgA t)) := by
  have hB : t.enc.length ≤ 1048576 := by have := hvt.len; omega
  have hkn : t.kids.length ≤ 1000 := by have := hvt.len; have := kids_le t; omega
  refine calls 83 Tryz.func15 rfl rfl rfl ?_
  have h := Hp.start hF
  refine W.seq (W.region rfl ?_)
  refine WL.box h rfl (fun b1 w h => ?_)
  refine WL.alloc h T49z (fun b2 w h => ?_)
  refine WL.p h Val.as ?_
  refine WL.nil ?_
  refine W.seq (W.region rfl ?_)
  refine WL.p h (Val.build0 B49e) ?_
  refine WL.alloc h T49z (fun b4 w h => ?_)
  refine WL.stS 2 h rfl T49z rfl (vs := [.string ⟨#[]⟩, .string ⟨#[]⟩, .string ⟨#[]⟩, .slice none 0 0, .slice none 0 0]) rfl z5one rfl rfl (fun w h => ?_)
  refine WL.nil ?_
  refine W.seq (W.seq (W.region rfl ?_))
  refine WL.p h (Val.ldS 0 A42 T42 rfl rfl rfl) ?_
  refine WL.call C46 (args := [.agg #[v]]) rfl ((l6Kind_calls F _ h.sub v t.enc hr t.atom (enc_last t)).mono ?_)
  rintro e w' ⟨rfl, hE⟩
  have h := h.call hE
  refine ⟨_, rfl, ?_⟩
  refine WL.p h (Val.ne (a := t.atom.k) (b := 6) rfl rfl) ?_
  refine WL.dec (fun k6 => ?_) (fun k6 => ?_)
  · refine WL.nil ?_
    refine W.condT rfl ?_
    refine W.seq (W.region rfl ?_)
    refine WL.p h (Val.ldS 2 A49z T49z rfl rfl rfl) ?_
    refine WL.stS 1 h rfl T49z rfl (vs := [.string ⟨#[]⟩, .string ⟨#[]⟩, .string ⟨#[]⟩, .slice none 0 0, .slice none 0 0]) rfl z5one rfl rfl (fun w h => ?_)
    refine WL.p h Val.as ?_
    refine WL.nil ?_
    refine W.ret ?_
    exact finBox2 (v := .bool false) h 1 rfl rfl rfl A49z T49z rfl rfl (PTg.no h.toExt z5one rfl (by rw [tgA, if_pos k6]))
  have k6 : t.atom.k = 6 := Decidable.not_not.1 k6
  obtain ⟨q, hq⟩ := hvt.even k6
  refine WL.nil ?_
  refine W.condF rfl ?_
  refine W.skip ?_
  refine W.seq (W.region rfl ?_)
  refine WL.p h (Val.ldS 0 A42 T42 rfl rfl rfl) ?_
  refine WL.call C69 (args := [.agg #[v]]) rfl ((l5Kids_calls F _ h.sub v _ hr hB).mono ?_)
  rintro e w' ⟨F1, u, us, ok, rfl, hE1, hk⟩
  rw [kidsP_enc t hvt.wf] at hk
  obtain ⟨rfl, hrk, hkk⟩ := hk
  have h := h.call hE1
  have hr := hr.mono hE1.ext
  refine ⟨_, rfl, ?_⟩
  refine WL.p h Val.mv ?_
  refine WL.p h (Val.ext (v := u) rfl rfl) ?_
  refine WL.p h (Val.ext (v := .bool true) rfl rfl) ?_
  refine WL.p h Val.as ?_
  refine WL.p h Val.as ?_
  refine WL.nil ?_
  refine W.seq (W.seq (W.region rfl ?_))
  refine WL.p h Val.as ?_
  refine WL.nil ?_
  refine W.block ?_
  refine W.loop (fun m R w => ∃ j, m + j = q ∧ Hp w0 F F1 [.box b1 [v] 45, .box b2 [.string ⟨#[]⟩, .string ⟨#[]⟩, .string ⟨#[]⟩, .slice none 0 0, .slice none 0 0] 49, .box b4 [.string ⟨#[]⟩, .string ⟨#[]⟩, .string ⟨#[]⟩, .slice none 0 0, .slice none 0 0] 49] w ∧ (∀ (i : Nat) x, i < j → t.kids[2 * i]? = some x → x.atom.t ∈ keys5) ∧ R 1 = pt b1 ∧ R 2 = pt b2 ∧ R 4 = pt b4 ∧ R 5 = u ∧ R 7 = .int .i64 ((2 * j : Nat) : Int)) q ⟨0, by omega, h, fun i x hi => by omega, rfl, rfl, rfl, rfl, rfl⟩ (fun m R w hI => ?_)
  clear h
  obtain ⟨j, hm, h, hin, p1, p2, p4, p5, p7⟩ := hI
  refine W.seq (W.seq (W.region rfl ?_))
  refine WL.p h Val.mv ?_
  refine WL.p h Val.mv ?_
  refine WL.p h (Val.len Tryz.underlying74 p5 hrk.val) ?_
  refine WL.p h (Val.lt p7 rfl) ?_
  refine WL.dec (fun c1 => ?_) (fun c1 => ?_)
  · obtain ⟨x, hx⟩ : ∃ x, t.kids[2 * j]? = some x := ⟨_, List.getElem?_eq_getElem (by omega)⟩
    obtain ⟨s1, hs1, hr1⟩ := hkk.get _ x hx
    refine WL.nil ?_
    refine W.condT rfl ?_
    refine W.skip ?_
    refine W.seq (W.block ?_)
    refine W.seq (W.region rfl ?_)
    refine WL.bs5 h Tryz.underlying41 T9 rfl rfl rfl rfl rfl rfl rfl rfl rfl rfl (fun bk w h => ?_)
    refine WL.p h Val.mv ?_
    refine WL.p h Val.mv ?_
    refine WL.p h (Val.ix (i := 2 * j) Tryz.underlying74 T42 p5 p7 (hrk.slice (by omega)) (by omega)) ?_
    refine WL.p h (Val.ldRS A42 T42 hrk rfl (cs := [s1]) rfl (one_cell hs1)) ?_
    refine WL.call C48 (args := [.agg #[s1]]) rfl ((l5Last_calls F1 _ h.sub s1 x.enc hr1 x.atom (enc_last x)).mono ?_)
    rintro e w' ⟨rfl, hE⟩
    have h := h.call hE
    refine ⟨_, rfl, ?_⟩
    refine WL.p h (Val.fld E79_2 rfl rfl) ?_
    refine WL.call C16z (args := [.slice (some ⟨bk, 0, none⟩) 5 5, .string x.atom.t]) rfl ((l1Has_calls (hv _) _ (Sub.refl _) _ keys5 x.atom.t (box_row (h.holds 3 _ rfl) rfl (by decide))).mono ?_)
    rintro e w' ⟨b, rfl, hb, hE⟩
    have h := (h.below_step hE.below).keep 3
    refine ⟨_, rfl, ?_⟩
    refine WL.p h (Val.not rfl) ?_
    cases b with
    | false =>
      refine WL.nil ?_
      refine W.condT rfl ?_
      refine W.seq (W.region rfl ?_)
      refine WL.p h (Val.ldS 2 A49z T49z rfl p4 rfl) ?_
      refine WL.stS 1 h rfl T49z p2 (vs := [.string ⟨#[]⟩, .string ⟨#[]⟩, .string ⟨#[]⟩, .slice none 0 0, .slice none 0 0]) rfl z5one rfl rfl (fun w h => ?_)
      refine WL.p h Val.as ?_
      refine WL.nil ?_
      refine W.ret ?_
      exact finBox2 (v := .bool false) h 1 rfl p2 rfl A49z T49z rfl rfl (PTg.no h.toExt z5one rfl (by rw [tgA, if_neg (fun e => e k6), if_pos (fun e => by simpa using hb.2 (e j x hx))]))
    | true =>
      refine WL.nil ?_
      refine W.condF rfl ?_
      refine W.skip ?_
      refine W.region rfl ?_
      refine WL.p h Val.mv ?_
      refine WL.p h (Val.addi (c := ((2 * (j + 1) : Nat) : Int)) p7 rfl (by omega)) ?_
      refine WL.p h Val.as ?_
      refine WL.nil ?_
      exact ⟨m - 1, by omega, j + 1, by omega, h, fun i y hi hy => by
        by_cases e : i = j
        · subst e; rw [hx] at hy; cases hy; exact hb.1 rfl
        · exact hin i y (by omega) hy, p1, p2, p4, p5, rfl⟩
  · have hall : ∀ (i : Nat) x, t.kids[2 * i]? = some x → x.atom.t ∈ keys5 := fun i x hx => hin i x (by have := (List.getElem?_eq_some_iff.1 hx).1; omega) hx
    clear hin
    refine WL.nil ?_
    refine W.condF rfl ?_
    refine W.exit ?_
    refine W.seq (W.region rfl ?_)
    refine WL.p h Val.as ?_
    refine WL.p h Val.as ?_
    refine WL.p h Val.as ?_
    refine WL.p h Val.as ?_
    refine WL.p h Val.as ?_
    refine WL.nil ?_
    refine W.seq (W.region rfl ?_)
    refine WL.p h (Val.ldS 0 A42 T42 rfl p1 rfl) ?_
    refine WL.call C39z (args := [.agg #[v], .string ⟨#[110, 97, 109, 101]⟩, .bool true]) rfl ((l9TextE F1 _ h.sub v t q hvt.wf hr hB hq ⟨#[110, 97, 109, 101]⟩ true).mono ?_)
    rintro e w' ⟨a1, b1, rfl, e1, hE⟩
    have h := h.call hE
    refine ⟨_, rfl, ?_⟩
    refine WL.p h Val.mv ?_
    refine WL.p h (Val.ext (v := .string a1) rfl rfl) ?_
    refine WL.p h (Val.ext (v := .bool b1) rfl rfl) ?_
    refine WL.p h (Val.fa O49_0z p4) ?_
    refine WL.st 2 (v := (.string a1)) h rfl T9 rfl rfl rfl rfl (fun w h => ?_)
    refine WL.p h Val.as ?_
    refine WL.nil ?_
    refine W.seq (W.region rfl ?_)
    refine WL.p h (Val.ldS 0 A42 T42 rfl p1 rfl) ?_
    refine WL.call C39z (args := [.agg #[v], .string ⟨#[116, 111, 111, 108]⟩, .bool true]) rfl ((l9TextE F1 _ h.sub v t q hvt.wf hr hB hq ⟨#[116, 111, 111, 108]⟩ true).mono ?_)
    rintro e w' ⟨a2, b2, rfl, e2, hE⟩
    have h := h.call hE
    refine ⟨_, rfl, ?_⟩
    refine WL.p h Val.mv ?_
    refine WL.p h (Val.ext (v := .string a2) rfl rfl) ?_
    refine WL.p h (Val.ext (v := .bool b2) rfl rfl) ?_
    refine WL.p h (Val.fa O49_1z p4) ?_
    refine WL.st 2 (v := (.string a2)) h rfl T9 rfl rfl rfl rfl (fun w h => ?_)
    refine WL.p h Val.as ?_
    refine WL.nil ?_
    refine W.seq (W.region rfl ?_)
    refine WL.p h (Val.ldS 0 A42 T42 rfl p1 rfl) ?_
    refine WL.call C39z (args := [.agg #[v], .string ⟨#[97, 114, 103]⟩, .bool false]) rfl ((l9TextE F1 _ h.sub v t q hvt.wf hr hB hq ⟨#[97, 114, 103]⟩ false).mono ?_)
    rintro e w' ⟨a3, b3, rfl, e3, hE⟩
    have h := h.call hE
    refine ⟨_, rfl, ?_⟩
    refine WL.p h Val.mv ?_
    refine WL.p h (Val.ext (v := .string a3) rfl rfl) ?_
    refine WL.p h (Val.ext (v := .bool b3) rfl rfl) ?_
    refine WL.p h (Val.fa O49_2z p4) ?_
    refine WL.st 2 (v := (.string a3)) h rfl T9 rfl rfl rfl rfl (fun w h => ?_)
    refine WL.p h Val.as ?_
    refine WL.nil ?_
    refine W.seq (W.region rfl ?_)
    refine WL.p h (Val.ldS 0 A42 T42 rfl p1 rfl) ?_
    refine WL.call C40z (args := [.agg #[v], .string ⟨#[105, 110, 115]⟩, .bool false]) rfl ((l9ListE F1 _ h.sub v t q hvt.wf hvt.kid_wf hvt.kids_len hr hB hq ⟨#[105, 110, 115]⟩ false).mono ?_)
    rintro e w' ⟨a4, b4, F2, si, rfl, e4, hE2, hrowI⟩
    have h := h.call hE2
    have hr := hr.mono hE2.ext
    refine ⟨_, rfl, ?_⟩
    refine WL.p h Val.mv ?_
    refine WL.p h (Val.ext (v := si) rfl rfl) ?_
    refine WL.p h (Val.ext (v := .bool b4) rfl rfl) ?_
    refine WL.p h (Val.fa O49_3z p4) ?_
    refine WL.st 2 (v := si) h rfl T24 rfl rfl hrowI.one rfl (fun w h => ?_)
    refine WL.p h Val.as ?_
    refine WL.nil ?_
    refine W.seq (W.region rfl ?_)
    refine WL.p h (Val.ldS 0 A42 T42 rfl p1 rfl) ?_
    refine WL.call C40z (args := [.agg #[v], .string ⟨#[111, 117, 116, 115]⟩, .bool true]) rfl ((l9ListE F2 _ h.sub v t q hvt.wf hvt.kid_wf hvt.kids_len hr hB hq ⟨#[111, 117, 116, 115]⟩ true).mono ?_)
    rintro e w' ⟨a5, b5, F3, so, rfl, e5, hE3, hrowO⟩
    have h := h.call hE3
    have hr := hr.mono hE3.ext
    have hrowI := hrowI.mono hE3.ext
    refine ⟨_, rfl, ?_⟩
    refine WL.p h Val.mv ?_
    refine WL.p h (Val.ext (v := so) rfl rfl) ?_
    refine WL.p h (Val.ext (v := .bool b5) rfl rfl) ?_
    refine WL.p h (Val.fa O49_4z p4) ?_
    refine WL.st 2 (v := so) h rfl T24 rfl rfl hrowO.one rfl (fun w h => ?_)
    refine WL.p h Val.as ?_
    refine WL.nil ?_
    have hone : ∀ v ∈ ([.string a1, .string a2, .string a3, si, so] : List Value), v.oneCell' = true := five_one hrowI.one hrowO.one
    have hT : tgA t = if b1 && b2 && b3 && b4 && b5 then some ⟨a1, a2, a3, a4, a5⟩ else none := by rw [tgA, if_neg (fun e => e k6), if_neg (fun e => e hall), e1, e2, e3, e4, e5]
    refine W.seq (W.region rfl ?_)
    refine WL.p h (Val.ldS 2 A49z T49z rfl p4 rfl) ?_
    refine WL.p h Val.mv ?_
    refine WL.p h Val.mv ?_
    cases b1 with
    | false =>
      refine WL.no rfl (?_)
      refine WL.p h (Val.pick rfl) ?_
      refine WL.p h Val.mv ?_
      refine WL.no rfl (?_)
      refine WL.p h (Val.pick rfl) ?_
      refine WL.p h Val.mv ?_
      refine WL.no rfl (?_)
      refine WL.p h (Val.pick rfl) ?_
      refine WL.p h Val.mv ?_
      refine WL.no rfl (?_)
      refine WL.p h (Val.pick rfl) ?_
      refine WL.stS 1 h rfl T49z p2 (vs := [.string a1, .string a2, .string a3, si, so]) rfl hone rfl rfl (fun w h => ?_)
      refine WL.p h Val.as ?_
      refine WL.nil ?_
      refine W.ret ?_
      exact finBox2 (v := .bool false) h 1 rfl p2 rfl A49z T49z rfl rfl (PTg.no h.toExt hone rfl (by rw [hT]; simp))
    | true =>
      refine WL.p h Val.mv ?_
      refine WL.p h (Val.pick rfl) ?_
      refine WL.p h Val.mv ?_
      cases b2 with
      | false =>
        refine WL.no rfl (?_)
        refine WL.p h (Val.pick rfl) ?_
        refine WL.p h Val.mv ?_
        refine WL.no rfl (?_)
        refine WL.p h (Val.pick rfl) ?_
        refine WL.p h Val.mv ?_
        refine WL.no rfl (?_)
        refine WL.p h (Val.pick rfl) ?_
        refine WL.stS 1 h rfl T49z p2 (vs := [.string a1, .string a2, .string a3, si, so]) rfl hone rfl rfl (fun w h => ?_)
        refine WL.p h Val.as ?_
        refine WL.nil ?_
        refine W.ret ?_
        exact finBox2 (v := .bool false) h 1 rfl p2 rfl A49z T49z rfl rfl (PTg.no h.toExt hone rfl (by rw [hT]; simp))
      | true =>
        refine WL.p h Val.mv ?_
        refine WL.p h (Val.pick rfl) ?_
        refine WL.p h Val.mv ?_
        cases b3 with
        | false =>
          refine WL.no rfl (?_)
          refine WL.p h (Val.pick rfl) ?_
          refine WL.p h Val.mv ?_
          refine WL.no rfl (?_)
          refine WL.p h (Val.pick rfl) ?_
          refine WL.stS 1 h rfl T49z p2 (vs := [.string a1, .string a2, .string a3, si, so]) rfl hone rfl rfl (fun w h => ?_)
          refine WL.p h Val.as ?_
          refine WL.nil ?_
          refine W.ret ?_
          exact finBox2 (v := .bool false) h 1 rfl p2 rfl A49z T49z rfl rfl (PTg.no h.toExt hone rfl (by rw [hT]; simp))
        | true =>
          refine WL.p h Val.mv ?_
          refine WL.p h (Val.pick rfl) ?_
          refine WL.p h Val.mv ?_
          cases b4 with
          | false =>
            refine WL.no rfl (?_)
            refine WL.p h (Val.pick rfl) ?_
            refine WL.stS 1 h rfl T49z p2 (vs := [.string a1, .string a2, .string a3, si, so]) rfl hone rfl rfl (fun w h => ?_)
            refine WL.p h Val.as ?_
            refine WL.nil ?_
            refine W.ret ?_
            exact finBox2 (v := .bool false) h 1 rfl p2 rfl A49z T49z rfl rfl (PTg.no h.toExt hone rfl (by rw [hT]; simp))
          | true =>
            refine WL.p h Val.mv ?_
            refine WL.p h (Val.pick rfl) ?_
            cases b5 with
            | false =>
              refine WL.stS 1 h rfl T49z p2 (vs := [.string a1, .string a2, .string a3, si, so]) rfl hone rfl rfl (fun w h => ?_)
              refine WL.p h Val.as ?_
              refine WL.nil ?_
              refine W.ret ?_
              exact finBox2 (v := .bool false) h 1 rfl p2 rfl A49z T49z rfl rfl (PTg.no h.toExt hone rfl (by rw [hT]; simp))
            | true =>
              refine WL.stS 1 h rfl T49z p2 (vs := [.string a1, .string a2, .string a3, si, so]) rfl hone rfl rfl (fun w h => ?_)
              refine WL.p h Val.as ?_
              refine WL.nil ?_
              refine W.ret ?_
              exact finBox2 (v := .bool true) h 1 rfl p2 rfl A49z T49z rfl rfl (PTg.yes h.toExt hone (by rw [hT]; rfl) hrowI hrowO)
end Go.Proofs.YtmiihhbgfijcmaaGreat.K

