/- Put together from Sa, Sq. -/
import Derived.Test.YtmiihhbgfijcmaaSl
/- Op: the reference's sums, walked. -/
namespace Go.Proofs.Ytmiihhbgfijcmaa.K
open Go Go.RowKit
set_option linter.unusedVariables false
set_option linter.unusedSimpArgs false
set_option maxRecDepth 20000
def l6aI (w0 : World) (F F1 : Fz) (b2 b3 b4 : Nat) (va vb kw : Value) (A B : AL T) (j : Nat) (R : Regs) (w : World) : Prop :=
  ∃ (F' : Fz) (kv : Value) (ss : List Value) (C : AL T), Sub F1 F' ∧ Hp w0 F F' [.box b2 [va] 42, .box b3 [vb] 42, .box b4 [.slice none 0 0] 42] w ∧ FRow F' kv (flatA C).length 1 ss ∧ KRows F' (flatA C) ss ∧ setAll C (B.drop j) = setAll A B ∧ C.length ≤ 200 + j ∧ (T.encs (flatA C)).length ≤ 1000 + 1001 * j ∧ R 4 = pt b4 ∧ R 6 = kv ∧ R 8 = kw ∧ R 12 = .int .i64 ((2 * j : Nat) : Int)
set_option maxHeartbeats 8000000 in
theorem l6Add_calls (F : Fz) (w0 : World) (hF : Sub F (hv w0)) (va vb : Value) (t u : T) (hvt : Vt t) (hvu : Vt u) (hrt : FRow F va t.enc.length 4 (rowA t.enc)) (hru : FRow F vb u.enc.length 4 (rowA u.enc)) : Calls Try.prog 59 #[.agg #[va], .agg #[vb]] w0 (PSW F w0 (addA t u)) := by
  have hBt : t.enc.length ≤ 1048576 := by have := hvt.len; omega
  have hBu : u.enc.length ≤ 1048576 := by have := hvu.len; omega
  have hkt := hvt.kids
  have hku := hvu.kids
  have het := hvt.kids_len
  have heu := hvu.kids_len
  refine calls 119 Try.func59 rfl rfl rfl ?_
  have h := Hp.start hF
  refine W.seq (W.region rfl ?_)
  refine WL.box h rfl (fun b2 w h => ?_)
  refine WL.box h rfl (fun b3 w h => ?_)
  refine WL.alloc h T42 (fun b4 w h => ?_)
  refine WL.p h Val.as ?_
  refine WL.nil ?_
  refine W.seq (W.seq (W.draw (fun w => Hp w0 F F [.box b2 [va] 42, .box b3 [vb] 42, .box b4 [.slice none 0 0] 42] w) [] 5 (by kernel_rfl) rfl rfl ?_))
  have hS := h.drewN 1
  refine WD.take 0 rfl (by kernel_rfl) (fun _ _ _ h => fin_panic h) hS (Val.ldS 0 A42 T42 rfl rfl rfl) ?_
  refine WD.take 2 rfl (by kernel_rfl) (fun _ _ _ h => fin_panic h) hS (Val.ldS 1 A42 T42 rfl rfl rfl) ?_
  refine WD.one 1 rfl (by kernel_rfl) ?_
  refine WL.call C46 (args := [.agg #[va]]) rfl ((l6Kind_calls F _ hS.sub va t.enc (hrt) t.atom (enc_last t)).mono ?_)
  rintro e w' ⟨rfl, hE⟩
  have hS := hS.call hE
  refine ⟨_, rfl, ?_⟩
  refine WL.nil ?_
  refine ⟨hS, ?_⟩
  refine WD.one 3 rfl (by kernel_rfl) ?_
  refine WL.call C46 (args := [.agg #[vb]]) rfl ((l6Kind_calls F _ hS.sub vb u.enc (hru) u.atom (enc_last u)).mono ?_)
  rintro e w' ⟨rfl, hE⟩
  have hS := hS.call hE
  refine ⟨_, rfl, ?_⟩
  refine WL.nil ?_
  refine ⟨hS, ?_⟩
  refine WD.take 4 rfl (by kernel_rfl) (fun _ _ _ h => fin_panic h) hS (Val.ne (a := t.atom.k) (b := u.atom.k) rfl rfl) ?_
  refine WD.dec (fun kne => ?_) (fun kne => ?_)
  · refine WD.nil (by kernel_rfl) ?_
    have h := hS
    refine W.condT rfl ?_
    refine W.seq (W.region rfl ?_)
    refine WL.call C49 (args := [.string wType]) rfl ((l6No_calls _ _ h.sub wType).mono ?_)
    rintro e w' ⟨rfl, hE⟩
    have h := h.call hE
    refine ⟨_, rfl, ?_⟩
    refine WL.p h (Val.ext (v := .agg #[.slice none 0 0]) rfl rfl) ?_
    refine WL.p h (Val.ext (v := .string wType) rfl rfl) ?_
    refine WL.stS 2 h rfl T42 rfl (vs := [.slice none 0 0]) rfl (one1 rfl) rfl rfl (fun w h => ?_)
    refine WL.p h Val.as ?_
    refine WL.nil ?_
    refine W.ret ?_
    exact finBox2 h 2 rfl rfl rfl A42 T42 rfl rfl (PSW.no h.toExt (by rw [addA, if_pos kne]))
  refine WD.nil (by kernel_rfl) ?_
  have h := hS
  have keq : t.atom.k = u.atom.k := Decidable.not_not.1 kne
  refine W.condF rfl ?_
  refine W.skip ?_
  refine W.seq (W.region rfl ?_)
  refine WL.p h (Val.ldS 0 A42 T42 rfl rfl rfl) ?_
  refine WL.call C69 (args := [.agg #[va]]) rfl ((l5Kids_calls F _ h.sub va _ hrt (hBt)).mono ?_)
  rintro e w' ⟨F1, ku, us1, ok, rfl, hE, hk⟩
  rw [kidsP_enc t hvt.wf] at hk
  obtain ⟨rfl, hrow1, hkr1⟩ := hk
  have h := h.call hE
  refine ⟨_, rfl, ?_⟩
  have hsub := hE.ext
  have hrt := hrt.mono hsub
  have hru := hru.mono hsub
  have hF1 := hsub
  refine WL.p h Val.mv ?_
  refine WL.p h (Val.ext (v := ku) rfl rfl) ?_
  refine WL.p h (Val.ext (v := .bool true) rfl rfl) ?_
  refine WL.p h Val.as ?_
  refine WL.p h Val.as ?_
  refine WL.nil ?_
  refine W.seq (W.region rfl ?_)
  refine WL.p h (Val.ldS 1 A42 T42 rfl rfl rfl) ?_
  refine WL.call C69 (args := [.agg #[vb]]) rfl ((l5Kids_calls F1 _ h.sub vb _ hru (hBu)).mono ?_)
  rintro e w' ⟨F2, kw, us2, ok, rfl, hE, hk⟩
  rw [kidsP_enc u hvu.wf] at hk
  obtain ⟨rfl, hrow2, hkr2⟩ := hk
  have h := h.call hE
  refine ⟨_, rfl, ?_⟩
  have hsub := hE.ext
  have hrt := hrt.mono hsub
  have hru := hru.mono hsub
  have hF2 : Sub F F2 := hF1.trans hsub
  have hrow1 := hrow1.mono hsub
  have hkr1 := hkr1.mono hsub
  refine WL.p h Val.mv ?_
  refine WL.p h (Val.ext (v := kw) rfl rfl) ?_
  refine WL.p h (Val.ext (v := .bool true) rfl rfl) ?_
  refine WL.p h Val.as ?_
  refine WL.p h Val.as ?_
  refine WL.nil ?_
  refine W.seq (W.seq (W.region rfl ?_))
  refine WL.p h (Val.ldS 0 A42 T42 rfl rfl rfl) ?_
  refine WL.call C46 (args := [.agg #[va]]) rfl ((l6Kind_calls F2 _ h.sub va t.enc hrt t.atom (enc_last t)).mono ?_)
  rintro e w' ⟨rfl, hE⟩
  have h := h.call hE
  refine ⟨_, rfl, ?_⟩
  refine WL.nil ?_
  have h : Hp w0 F F2 [.box b2 [va] 42, .box b3 [vb] 42, .box b4 [.slice none 0 0] 42] _ := h
  refine W.cutT (fun R w => Hp w0 F F2 [.box b2 [va] 42, .box b3 [vb] 42, .box b4 [.slice none 0 0] 42] w ∧ addA t u = ([], wType) ∧ R 4 = pt b4) ?_ ?_
  · refine W.block ?_
    refine W.seq (W.region rfl ?_)
    refine WL.p h (Val.eq (a := t.atom.k) (b := 3) rfl rfl) ?_
    refine WL.dec (fun k3 => ?_) (fun k3 => ?_)
    · have hA : addA t u = (rng (t.atom.n + u.atom.n)).at := by rw [addA, if_neg kne, if_pos k3]; rfl
      have hx := hvt.num
      have hy := hvu.num
      unfold inR at hx hy
      refine WL.p h Val.as ?_
      refine WL.nil ?_
      refine W.condT rfl ?_
      refine W.seq (W.region rfl ?_)
      refine WL.p h (Val.ldS 0 A42 T42 rfl rfl rfl) ?_
      refine WL.call C48 (args := [.agg #[va]]) rfl ((l5Last_calls F2 _ h.sub va t.enc hrt t.atom (enc_last t)).mono ?_)
      rintro e w' ⟨rfl, hE⟩
      have h := h.call hE
      refine ⟨_, rfl, ?_⟩
      refine WL.p h (Val.fld E79_1 rfl rfl) ?_
      refine WL.p h Val.as ?_
      refine WL.nil ?_
      refine W.seq (W.region rfl ?_)
      refine WL.p h (Val.ldS 1 A42 T42 rfl rfl rfl) ?_
      refine WL.call C48 (args := [.agg #[vb]]) rfl ((l5Last_calls F2 _ h.sub vb u.enc hru u.atom (enc_last u)).mono ?_)
      rintro e w' ⟨rfl, hE⟩
      have h := h.call hE
      refine ⟨_, rfl, ?_⟩
      refine WL.p h (Val.fld E79_1 rfl rfl) ?_
      refine WL.p h Val.as ?_
      refine WL.nil ?_
      refine W.seq (W.seq (W.region rfl ?_))
      refine WL.p h Val.mv ?_
      refine WL.p h (Val.gt (a := u.atom.n) (b := 0) rfl rfl) ?_
      refine WL.dec (fun d1 => ?_) (fun d1 => ?_)
      · refine WL.p h Val.mv ?_
        refine WL.p h Val.mv ?_
        refine WL.p h Val.mv ?_
        refine WL.p h (Val.subi (a := 9223372036854775807) (b := u.atom.n) (c := 9223372036854775807 - u.atom.n) rfl rfl (by omega)) ?_
        refine WL.p h (Val.gt (a := t.atom.n) rfl rfl) ?_
        refine WL.dec (fun d6 => ?_) (fun d6 => ?_)
        · refine WL.p h (Val.pick rfl) ?_
          refine WL.p h Val.mv ?_
          refine WL.no rfl (?_)
          refine WL.no rfl (?_)
          refine WL.no rfl (?_)
          refine WL.no rfl (?_)
          refine WL.no rfl (?_)
          refine WL.no rfl (?_)
          refine WL.no rfl (?_)
          refine WL.no rfl (?_)
          refine WL.p h (Val.pick rfl) ?_
          refine WL.nil ?_
          refine W.condT rfl ?_
          refine W.seq (W.region rfl ?_)
          refine WL.call C49 (args := [.string wRange]) rfl ((l6No_calls _ _ h.sub wRange).mono ?_)
          rintro e w' ⟨rfl, hE⟩
          have h := h.call hE
          refine ⟨_, rfl, ?_⟩
          refine WL.p h (Val.ext (v := .agg #[.slice none 0 0]) rfl rfl) ?_
          refine WL.p h (Val.ext (v := .string wRange) rfl rfl) ?_
          refine WL.stS 2 h rfl T42 rfl (vs := [.slice none 0 0]) rfl (one1 rfl) rfl rfl (fun w h => ?_)
          refine WL.p h Val.as ?_
          refine WL.nil ?_
          refine W.ret ?_
          exact finBox2 h 2 rfl rfl rfl A42 T42 rfl rfl (PSW.no h.toExt (by rw [hA, rng, if_neg (by unfold inR; omega)]; rfl))
        · refine WL.p h (Val.pick rfl) ?_
          refine WL.p h Val.mv ?_
          refine WL.p h Val.mv ?_
          refine WL.p h (Val.lt (a := u.atom.n) (b := 0) rfl rfl) ?_
          refine WL.dec (fun d10 => ?_) (fun d10 => ?_)
          · refine WL.p h Val.mv ?_
            refine WL.p h Val.mv ?_
            refine WL.p h Val.mv ?_
            refine WL.p h (Val.subi (a := -9223372036854775808) (b := u.atom.n) (c := -9223372036854775808 - u.atom.n) rfl rfl (by omega)) ?_
            refine WL.p h (Val.lt (a := t.atom.n) rfl rfl) ?_
            refine WL.dec (fun d15 => ?_) (fun d15 => ?_)
            · refine WL.p h (Val.pick rfl) ?_
              refine WL.p h (Val.pick rfl) ?_
              refine WL.nil ?_
              refine W.condT rfl ?_
              refine W.seq (W.region rfl ?_)
              refine WL.call C49 (args := [.string wRange]) rfl ((l6No_calls _ _ h.sub wRange).mono ?_)
              rintro e w' ⟨rfl, hE⟩
              have h := h.call hE
              refine ⟨_, rfl, ?_⟩
              refine WL.p h (Val.ext (v := .agg #[.slice none 0 0]) rfl rfl) ?_
              refine WL.p h (Val.ext (v := .string wRange) rfl rfl) ?_
              refine WL.stS 2 h rfl T42 rfl (vs := [.slice none 0 0]) rfl (one1 rfl) rfl rfl (fun w h => ?_)
              refine WL.p h Val.as ?_
              refine WL.nil ?_
              refine W.ret ?_
              exact finBox2 h 2 rfl rfl rfl A42 T42 rfl rfl (PSW.no h.toExt (by rw [hA, rng, if_neg (by unfold inR; omega)]; rfl))
            · refine WL.p h (Val.pick rfl) ?_
              refine WL.p h (Val.pick rfl) ?_
              refine WL.nil ?_
              refine W.condF rfl ?_
              refine W.skip ?_
              refine W.seq (W.region rfl ?_)
              refine WL.p h Val.mv ?_
              refine WL.p h Val.mv ?_
              refine WL.p h (Val.addi (a := t.atom.n) (b := u.atom.n) (c := t.atom.n + u.atom.n) rfl rfl (by omega)) ?_
              refine WL.call C50 (args := [.int .i64 (t.atom.n + u.atom.n)]) rfl ((l5Int_calls _ _ h.sub (t.atom.n + u.atom.n)).mono ?_)
              rintro e w' ⟨F9, s9, rfl, hE, hrow9⟩
              have h := h.call hE
              refine ⟨_, rfl, ?_⟩
              refine WL.stS 2 h rfl T42 rfl (vs := [s9]) rfl (one1 hrow9.one) rfl rfl (fun w h => ?_)
              refine WL.p h Val.as ?_
              refine WL.nil ?_
              refine W.ret ?_
              exact finBox2 (v := .string ⟨#[]⟩) h 2 rfl rfl rfl A42 T42 rfl rfl (PSW.of (l' := ([⟨3, (t.atom.n + u.atom.n), ⟨#[]⟩, 0⟩], ⟨#[]⟩)) (by rw [hA, rng, if_pos (by unfold inR; omega)]; rfl) rfl h.toExt hrow9)
          · refine WL.p h Val.mv ?_
            refine WL.no rfl (?_)
            refine WL.no rfl (?_)
            refine WL.no rfl (?_)
            refine WL.no rfl (?_)
            refine WL.p h (Val.pick rfl) ?_
            refine WL.p h (Val.pick rfl) ?_
            refine WL.nil ?_
            refine W.condF rfl ?_
            refine W.skip ?_
            refine W.seq (W.region rfl ?_)
            refine WL.p h Val.mv ?_
            refine WL.p h Val.mv ?_
            refine WL.p h (Val.addi (a := t.atom.n) (b := u.atom.n) (c := t.atom.n + u.atom.n) rfl rfl (by omega)) ?_
            refine WL.call C50 (args := [.int .i64 (t.atom.n + u.atom.n)]) rfl ((l5Int_calls _ _ h.sub (t.atom.n + u.atom.n)).mono ?_)
            rintro e w' ⟨F9, s9, rfl, hE, hrow9⟩
            have h := h.call hE
            refine ⟨_, rfl, ?_⟩
            refine WL.stS 2 h rfl T42 rfl (vs := [s9]) rfl (one1 hrow9.one) rfl rfl (fun w h => ?_)
            refine WL.p h Val.as ?_
            refine WL.nil ?_
            refine W.ret ?_
            exact finBox2 (v := .string ⟨#[]⟩) h 2 rfl rfl rfl A42 T42 rfl rfl (PSW.of (l' := ([⟨3, (t.atom.n + u.atom.n), ⟨#[]⟩, 0⟩], ⟨#[]⟩)) (by rw [hA, rng, if_pos (by unfold inR; omega)]; rfl) rfl h.toExt hrow9)
      · refine WL.p h Val.mv ?_
        refine WL.no rfl (?_)
        refine WL.no rfl (?_)
        refine WL.no rfl (?_)
        refine WL.no rfl (?_)
        refine WL.p h (Val.pick rfl) ?_
        refine WL.p h Val.mv ?_
        refine WL.p h Val.mv ?_
        refine WL.p h (Val.lt (a := u.atom.n) (b := 0) rfl rfl) ?_
        refine WL.dec (fun d10 => ?_) (fun d10 => ?_)
        · refine WL.p h Val.mv ?_
          refine WL.p h Val.mv ?_
          refine WL.p h Val.mv ?_
          refine WL.p h (Val.subi (a := -9223372036854775808) (b := u.atom.n) (c := -9223372036854775808 - u.atom.n) rfl rfl (by omega)) ?_
          refine WL.p h (Val.lt (a := t.atom.n) rfl rfl) ?_
          refine WL.dec (fun d15 => ?_) (fun d15 => ?_)
          · refine WL.p h (Val.pick rfl) ?_
            refine WL.p h (Val.pick rfl) ?_
            refine WL.nil ?_
            refine W.condT rfl ?_
            refine W.seq (W.region rfl ?_)
            refine WL.call C49 (args := [.string wRange]) rfl ((l6No_calls _ _ h.sub wRange).mono ?_)
            rintro e w' ⟨rfl, hE⟩
            have h := h.call hE
            refine ⟨_, rfl, ?_⟩
            refine WL.p h (Val.ext (v := .agg #[.slice none 0 0]) rfl rfl) ?_
            refine WL.p h (Val.ext (v := .string wRange) rfl rfl) ?_
            refine WL.stS 2 h rfl T42 rfl (vs := [.slice none 0 0]) rfl (one1 rfl) rfl rfl (fun w h => ?_)
            refine WL.p h Val.as ?_
            refine WL.nil ?_
            refine W.ret ?_
            exact finBox2 h 2 rfl rfl rfl A42 T42 rfl rfl (PSW.no h.toExt (by rw [hA, rng, if_neg (by unfold inR; omega)]; rfl))
          · refine WL.p h (Val.pick rfl) ?_
            refine WL.p h (Val.pick rfl) ?_
            refine WL.nil ?_
            refine W.condF rfl ?_
            refine W.skip ?_
            refine W.seq (W.region rfl ?_)
            refine WL.p h Val.mv ?_
            refine WL.p h Val.mv ?_
            refine WL.p h (Val.addi (a := t.atom.n) (b := u.atom.n) (c := t.atom.n + u.atom.n) rfl rfl (by omega)) ?_
            refine WL.call C50 (args := [.int .i64 (t.atom.n + u.atom.n)]) rfl ((l5Int_calls _ _ h.sub (t.atom.n + u.atom.n)).mono ?_)
            rintro e w' ⟨F9, s9, rfl, hE, hrow9⟩
            have h := h.call hE
            refine ⟨_, rfl, ?_⟩
            refine WL.stS 2 h rfl T42 rfl (vs := [s9]) rfl (one1 hrow9.one) rfl rfl (fun w h => ?_)
            refine WL.p h Val.as ?_
            refine WL.nil ?_
            refine W.ret ?_
            exact finBox2 (v := .string ⟨#[]⟩) h 2 rfl rfl rfl A42 T42 rfl rfl (PSW.of (l' := ([⟨3, (t.atom.n + u.atom.n), ⟨#[]⟩, 0⟩], ⟨#[]⟩)) (by rw [hA, rng, if_pos (by unfold inR; omega)]; rfl) rfl h.toExt hrow9)
        · refine WL.p h Val.mv ?_
          refine WL.no rfl (?_)
          refine WL.no rfl (?_)
          refine WL.no rfl (?_)
          refine WL.no rfl (?_)
          refine WL.p h (Val.pick rfl) ?_
          refine WL.p h (Val.pick rfl) ?_
          refine WL.nil ?_
          refine W.condF rfl ?_
          refine W.skip ?_
          refine W.seq (W.region rfl ?_)
          refine WL.p h Val.mv ?_
          refine WL.p h Val.mv ?_
          refine WL.p h (Val.addi (a := t.atom.n) (b := u.atom.n) (c := t.atom.n + u.atom.n) rfl rfl (by omega)) ?_
          refine WL.call C50 (args := [.int .i64 (t.atom.n + u.atom.n)]) rfl ((l5Int_calls _ _ h.sub (t.atom.n + u.atom.n)).mono ?_)
          rintro e w' ⟨F9, s9, rfl, hE, hrow9⟩
          have h := h.call hE
          refine ⟨_, rfl, ?_⟩
          refine WL.stS 2 h rfl T42 rfl (vs := [s9]) rfl (one1 hrow9.one) rfl rfl (fun w h => ?_)
          refine WL.p h Val.as ?_
          refine WL.nil ?_
          refine W.ret ?_
          exact finBox2 (v := .string ⟨#[]⟩) h 2 rfl rfl rfl A42 T42 rfl rfl (PSW.of (l' := ([⟨3, (t.atom.n + u.atom.n), ⟨#[]⟩, 0⟩], ⟨#[]⟩)) (by rw [hA, rng, if_pos (by unfold inR; omega)]; rfl) rfl h.toExt hrow9)
    refine WL.p h Val.as ?_
    refine WL.nil ?_
    refine W.condF rfl ?_
    refine W.seq (W.region rfl ?_)
    refine WL.p h (Val.eq (a := t.atom.k) (b := 4) rfl rfl) ?_
    refine WL.dec (fun k4 => ?_) (fun k4 => ?_)
    · have hA : addA t u = rightA [⟨4, 0, t.atom.t ++ u.atom.t, 0⟩] := by rw [addA, if_neg kne, if_neg k3, if_pos k4]
      have hts := hvt.text k4
      have hus := hvu.text (by omega)
      refine WL.p h Val.as ?_
      refine WL.nil ?_
      refine W.condT rfl ?_
      refine W.seq (W.draw (fun w => Hp w0 F F2 [.box b2 [va] 42, .box b3 [vb] 42, .box b4 [.slice none 0 0] 42] w) [11, 12] 13 (by kernel_rfl) rfl rfl ?_)
      have hS := h.drewN 1
      refine WD.take 0 rfl (by kernel_rfl) (fun _ _ _ h => fin_panic h) hS (Val.ldS 0 A42 T42 rfl rfl rfl) ?_
      refine WD.take 3 rfl (by kernel_rfl) (fun _ _ _ h => fin_panic h) hS (Val.ldS 1 A42 T42 rfl rfl rfl) ?_
      refine WD.one 1 rfl (by kernel_rfl) ?_
      refine WL.call C48 (args := [.agg #[va]]) rfl ((l5Last_calls F2 _ hS.sub va t.enc (hrt) t.atom (enc_last t)).mono ?_)
      rintro e w' ⟨rfl, hE⟩
      have hS := hS.call hE
      refine ⟨_, rfl, ?_⟩
      refine WL.nil ?_
      refine ⟨hS, ?_⟩
      refine WD.take 2 rfl (by kernel_rfl) (fun _ _ _ h => fin_panic h) hS (Val.fld E79_2 rfl rfl) ?_
      refine WD.one 4 rfl (by kernel_rfl) ?_
      refine WL.call C48 (args := [.agg #[vb]]) rfl ((l5Last_calls F2 _ hS.sub vb u.enc (hru) u.atom (enc_last u)).mono ?_)
      rintro e w' ⟨rfl, hE⟩
      have hS := hS.call hE
      refine ⟨_, rfl, ?_⟩
      refine WL.nil ?_
      refine ⟨hS, ?_⟩
      refine WD.take 5 rfl (by kernel_rfl) (fun _ _ _ h => fin_panic h) hS (Val.fld E79_2 rfl rfl) ?_
      refine WD.take 6 rfl (by kernel_rfl) (fun _ _ _ h => fin_panic h) hS (Val.sAdd (a := t.atom.t) (b := u.atom.t) rfl rfl (by omega)) ?_
      refine WD.one 7 rfl (by kernel_rfl) ?_
      refine WL.call C86 (args := [.string (t.atom.t ++ u.atom.t)]) rfl ((l5Text_new _ (t.atom.t ++ u.atom.t)).mono ?_)
      intro e w' hp
      obtain ⟨F3, s3, rfl, hs3, h, hr3⟩ := hS.takeF hp
      refine ⟨_, rfl, ?_⟩
      refine WL.nil ?_
      have hS := h.weak hF2 hs3
      refine ⟨hS, ?_⟩
      refine WD.one 8 rfl (by kernel_rfl) ?_
      refine WL.call C85 (args := [.agg #[s3]]) rfl ((l6Right_calls F3 _ h.sub s3 [⟨4, 0, t.atom.t ++ u.atom.t, 0⟩] hr3 (by simp)).mono ?_)
      rintro e w' ⟨F8, s8, rfl, hE, hrow8⟩
      have h := h.call hE
      refine ⟨_, rfl, ?_⟩
      refine WL.nil ?_
      have hS := h.weak hF2 (hs3.trans hE.ext)
      refine ⟨hS, ?_⟩
      refine WD.take 9 rfl (by kernel_rfl) (fun _ _ _ h => fin_panic h) hS (Val.ext (v := .agg #[s8]) rfl rfl) ?_
      refine WD.take 10 rfl (by kernel_rfl) (fun _ _ _ h => fin_panic h) hS (Val.ext (v := .string (rightA [⟨4, 0, t.atom.t ++ u.atom.t, 0⟩]).2) rfl rfl) ?_
      refine WD.last 11 rfl (by kernel_rfl) rfl ?_
      refine WL.stS 2 h rfl T42 rfl (vs := [s8]) rfl (one1 hrow8.one) rfl rfl (fun w h => ?_)
      refine WL.nil ?_
      refine WD.last 12 rfl (by kernel_rfl) rfl ?_
      refine WL.p h Val.as ?_
      refine WL.nil ?_
      refine WD.nil (by kernel_rfl) ?_
      refine W.ret ?_
      exact finBox2 (v := .string (rightA [⟨4, 0, t.atom.t ++ u.atom.t, 0⟩]).2) h 2 rfl rfl rfl A42 T42 rfl rfl (PSW.of hA rfl h.toExt hrow8)
    refine WL.p h Val.as ?_
    refine WL.nil ?_
    refine W.condF rfl ?_
    refine W.seq (W.region rfl ?_)
    refine WL.p h (Val.eq (a := t.atom.k) (b := 5) rfl rfl) ?_
    refine WL.dec (fun k5 => ?_) (fun k5 => ?_)
    · have hA : addA t u = rightA (T.encs (t.kids ++ u.kids) ++ [⟨5, 0, ⟨#[]⟩, (t.kids ++ u.kids).length⟩]) := by rw [addA, if_neg kne, if_neg k3, if_neg k4, if_pos k5]
      have hel : (T.encs (t.kids ++ u.kids)).length ≤ 2000 := by rw [encs_append, List.length_append]; omega
      refine WL.p h Val.as ?_
      refine WL.nil ?_
      refine W.condT rfl ?_
      refine W.seq (W.region rfl ?_)
      refine WL.bs0 h Try.underlying102 T42 (fun b9 w h => ?_)
      refine WL.p h Val.mv ?_
      refine WL.appR 3 h rfl Try.underlying102 T42 (by decide) rfl rfl (hrow1.mono h.sub) hkr1.one (by omega) (by omega) (fun kv w h => ?_)
      refine WL.p h Val.mv ?_
      refine WL.appR 3 h rfl Try.underlying102 T42 (by decide) rfl rfl (hrow2.mono h.sub) hkr2.one (by omega) (by omega) (fun kv w h => ?_)
      have hkk : KRows F2 (t.kids ++ u.kids) (us1 ++ us2) := hkr1.append hkr2
      refine WL.call C87 (args := [.int .i64 5, kv]) rfl ((make_calls _ 5 kv (us1 ++ us2) (t.kids ++ u.kids) (by have := h.row 3 rfl; simpa using this) (hkk.mono h.sub) (by omega)).mono ?_)
      intro e w' hp
      obtain ⟨F3, s3, rfl, hs3, h, hr3⟩ := h.takeF hp
      refine ⟨_, rfl, ?_⟩
      refine WL.call C85 (args := [.agg #[s3]]) rfl ((l6Right_calls F3 _ h.sub s3 (T.encs (t.kids ++ u.kids) ++ [⟨5, 0, ⟨#[]⟩, (t.kids ++ u.kids).length⟩]) hr3 (by simp only [List.length_append, List.length_singleton]; omega)).mono ?_)
      rintro e w' ⟨F8, s8, rfl, hE, hrow8⟩
      have h := h.call hE
      refine ⟨_, rfl, ?_⟩
      refine WL.p h (Val.ext (v := .agg #[s8]) rfl rfl) ?_
      refine WL.p h (Val.ext (v := .string (rightA (T.encs (t.kids ++ u.kids) ++ [⟨5, 0, ⟨#[]⟩, (t.kids ++ u.kids).length⟩])).2) rfl rfl) ?_
      refine WL.stS 2 h rfl T42 rfl (vs := [s8]) rfl (one1 hrow8.one) rfl rfl (fun w h => ?_)
      refine WL.p h Val.as ?_
      refine WL.nil ?_
      refine W.ret ?_
      exact finBox2 (v := .string (rightA (T.encs (t.kids ++ u.kids) ++ [⟨5, 0, ⟨#[]⟩, (t.kids ++ u.kids).length⟩])).2) h 2 rfl rfl rfl A42 T42 rfl rfl (PSW.of hA rfl h.toExt hrow8)
    refine WL.p h Val.as ?_
    refine WL.nil ?_
    refine W.condF rfl ?_
    refine W.seq (W.region rfl ?_)
    refine WL.p h (Val.eq (a := t.atom.k) (b := 6) rfl rfl) ?_
    refine WL.dec (fun k6 => ?_) (fun k6 => ?_)
    · obtain ⟨A, hAk, hAs, hAl, _⟩ := hvt.asRec k6
      obtain ⟨B, hBk, hBs, hBl, _⟩ := hvu.asRec (by omega)
      have hA : addA t u = rightA (T.encs (flatA (setAll A B)) ++ [⟨6, 0, ⟨#[]⟩, (flatA (setAll A B)).length⟩]) := by rw [addA, if_neg kne, if_neg k3, if_neg k4, if_neg k5, if_pos k6, hAk, hBk, addTl_flat]
      rw [hAk] at hrow1 hkr1 het
      rw [hBk] at hrow2 hkr2 heu
      have hfb := flatA_len B
      refine WL.p h Val.as ?_
      refine WL.nil ?_
      refine W.condT rfl ?_
      refine W.seq (W.seq (W.region rfl ?_))
      refine WL.p h Val.as ?_
      refine WL.nil ?_
      refine W.block ?_
      refine W.loop (fun m R w => ∃ j, m + j = B.length ∧ l6aI w0 F F2 b2 b3 b4 va vb kw A B j R w) B.length ⟨0, by omega, F2, ku, us1, A, Sub.refl _, h, hrow1, hkr1, by simp, by omega, by omega, rfl, rfl, rfl, rfl⟩ (fun m R w hI => ?_)
      clear h
      obtain ⟨j, hm, F', kv, ss, C, hs1, h, hrk, hkk, hset, hCl, hCe, h4, h6, h8, h12⟩ := hI
      refine W.seq (W.seq (W.region rfl ?_))
      refine WL.p h Val.mv ?_
      refine WL.p h Val.mv ?_
      refine WL.p h (Val.len Try.underlying102 h8 hrow2.val) ?_
      refine WL.p h (Val.lt h12 rfl) ?_
      refine WL.dec (fun c1 => ?_) (fun c1 => ?_)
      · have hpj : B[j]? = some B[j] := List.getElem?_eq_getElem (by omega)
        obtain ⟨hx, hy⟩ := flatA_get hpj
        obtain ⟨s1, hs1', hr1⟩ := hkr2.get _ _ hx
        obtain ⟨s2, hs2', hr2⟩ := hkr2.get _ _ hy
        have hBe : B[j].2.enc.length ≤ 1000 := by have := enc_le (flatA B) hy; omega
        refine WL.nil ?_
        refine W.condT rfl ?_
        refine W.skip ?_
        refine W.seq (W.block ?_)
        refine W.draw (fun w => Hp w0 F F' [.box b2 [va] 42, .box b3 [vb] 42, .box b4 [.slice none 0 0] 42] w) [12, 13] 14 (by kernel_rfl) rfl rfl ?_
        have hS := h.drewN 1
        refine WD.take 0 rfl (by kernel_rfl) (fun _ _ _ h => fin_panic h) hS Val.mv ?_
        refine WD.take 1 rfl (by kernel_rfl) (fun _ _ _ h => fin_panic h) hS Val.mv ?_
        refine WD.take 2 rfl (by kernel_rfl) (fun _ _ _ h => fin_panic h) hS Val.mv ?_
        refine WD.take 3 rfl (by kernel_rfl) (fun _ _ _ h => fin_panic h) hS (Val.ix (i := 2 * j) Try.underlying102 T42 h8 h12 (hrow2.slice (by omega)) (by omega)) ?_
        refine WD.take 4 rfl (by kernel_rfl) (fun _ _ _ h => fin_panic h) hS (Val.ldRS A42 T42 (hrow2.mono hs1) rfl (cs := [s1]) rfl (one_cell hs1')) ?_
        refine WD.take 7 rfl (by kernel_rfl) (fun _ _ _ h => fin_panic h) hS Val.mv ?_
        refine WD.take 8 rfl (by kernel_rfl) (fun _ _ _ h => fin_panic h) hS Val.mv ?_
        refine WD.take 9 rfl (by kernel_rfl) (fun _ _ _ h => fin_panic h) hS (Val.addi (c := ((2 * j + 1 : Nat) : Int)) h12 rfl (by omega)) ?_
        refine WD.take 10 rfl (by kernel_rfl) (fun _ _ _ h => fin_panic h) hS (Val.ix (i := 2 * j + 1) Try.underlying102 T42 h8 rfl (hrow2.slice (by omega)) (by omega)) ?_
        refine WD.take 11 rfl (by kernel_rfl) (fun _ _ _ h => fin_panic h) hS (Val.ldRS A42 T42 (hrow2.mono hs1) rfl (cs := [s2]) rfl (one_cell hs2')) ?_
        refine WD.one 5 rfl (by kernel_rfl) ?_
        refine WL.call C48 (args := [.agg #[s1]]) rfl ((l5Last_calls F' _ hS.sub s1 (tNode B[j].1).enc (hr1.mono hs1) ⟨4, 0, B[j].1, 0⟩ (enc_last (tNode B[j].1))).mono ?_)
        rintro e w' ⟨rfl, hE⟩
        have hS := hS.call hE
        refine ⟨_, rfl, ?_⟩
        refine WL.nil ?_
        refine ⟨hS, ?_⟩
        refine WD.take 6 rfl (by kernel_rfl) (fun _ _ _ h => fin_panic h) hS (Val.fld E79_2 rfl rfl) ?_
        have h := hS
        refine WD.last 12 rfl (by kernel_rfl) rfl ?_
        refine WL.call C88 (args := [kv, .string B[j].1, .agg #[s2]]) (congrArg (fun x => [x, Value.string B[j].1, Value.agg #[s2]]) h6) ((l5Set_exact F' _ h.sub kv ss (flatA C) C.length (flatA_len C) (by omega) hrk hkk B[j].1 s2 B[j].2 (hr2.mono hs1)).mono ?_)
        rintro e w' ⟨F3, kv', ss', rfl, hE, hrk', hkk'⟩
        have h := h.call hE
        rw [setTl_flat] at hrk' hkk'
        refine ⟨_, rfl, ?_⟩
        refine WL.nil ?_
        refine WD.last 13 rfl (by kernel_rfl) rfl ?_
        refine WL.p h Val.as ?_
        refine WL.nil ?_
        refine WD.nil (by kernel_rfl) ?_
        refine W.region rfl ?_
        refine WL.p h Val.mv ?_
        refine WL.p h (Val.addi (c := ((2 * (j + 1) : Nat) : Int)) h12 rfl (by omega)) ?_
        refine WL.p h Val.as ?_
        refine WL.nil ?_
        have hl1 := setA_len B[j].1 B[j].2 C
        have hl2 := setA_sum (n := B[j].1) (v := B[j].2) C
        rw [← encs_sum, ← encs_sum] at hl2
        refine ⟨m - 1, by omega, j + 1, by omega, F3, kv', ss', setA B[j].1 B[j].2 C false, hs1.trans hE.ext, h, hrk', hkk', ?_, by omega, by omega, h4, rfl, h8, rfl⟩
        rw [← hset, List.drop_eq_getElem_cons (show j < B.length by omega)]
        rfl
      · have hj : j = B.length := by omega
        subst hj
        rw [List.drop_length] at hset
        have hset : C = setAll A B := hset
        subst hset
        have hB2 : (T.encs (flatA (setAll A B))).length ≤ 1000000 := by omega
        refine WL.nil ?_
        refine W.condF rfl ?_
        refine W.exit ?_
        refine W.seq (W.region rfl ?_)
        refine WL.p h Val.mv ?_
        refine WL.call C87 (args := [.int .i64 6, kv]) (congrArg (fun x => [Value.int .i64 6, x]) h6) ((make_calls w 6 kv ss (flatA (setAll A B)) (hrk.mono h.sub) (hkk.mono h.sub) (by omega)).mono ?_)
        intro e w' hp
        obtain ⟨F3, s3, rfl, hs3, h, hr3⟩ := h.takeF hp
        refine ⟨_, rfl, ?_⟩
        refine WL.call C85 (args := [.agg #[s3]]) rfl ((l6Right_calls F3 _ h.sub s3 (T.encs (flatA (setAll A B)) ++ [⟨6, 0, ⟨#[]⟩, (flatA (setAll A B)).length⟩]) hr3 (by simp only [List.length_append, List.length_singleton]; omega)).mono ?_)
        rintro e w' ⟨F8, s8, rfl, hE, hrow8⟩
        have h := h.call hE
        refine ⟨_, rfl, ?_⟩
        refine WL.p h (Val.ext (v := .agg #[s8]) rfl rfl) ?_
        refine WL.p h (Val.ext (v := .string (rightA (T.encs (flatA (setAll A B)) ++ [⟨6, 0, ⟨#[]⟩, (flatA (setAll A B)).length⟩])).2) rfl rfl) ?_
        refine WL.stS 2 h rfl T42 h4 (vs := [s8]) rfl (one1 hrow8.one) rfl rfl (fun w h => ?_)
        refine WL.p h Val.as ?_
        refine WL.nil ?_
        refine W.ret ?_
        exact finBox2 (v := .string (rightA (T.encs (flatA (setAll A B)) ++ [⟨6, 0, ⟨#[]⟩, (flatA (setAll A B)).length⟩])).2) h 2 rfl h4 rfl A42 T42 rfl rfl (PSW.of hA rfl h.toExt hrow8)
    refine WL.p h Val.as ?_
    refine WL.nil ?_
    refine W.condF rfl ?_
    refine W.skip ?_
    exact ⟨h, by rw [addA, if_neg kne, if_neg k3, if_neg k4, if_neg k5, if_neg k6], rfl⟩
  clear h
  rintro R w ⟨h, hA, h4⟩
  refine W.seq (W.region rfl ?_)
  refine WL.call C49 (args := [.string wType]) rfl ((l6No_calls _ _ h.sub wType).mono ?_)
  rintro e w' ⟨rfl, hE⟩
  have h := h.call hE
  refine ⟨_, rfl, ?_⟩
  refine WL.p h (Val.ext (v := .agg #[.slice none 0 0]) rfl rfl) ?_
  refine WL.p h (Val.ext (v := .string wType) rfl rfl) ?_
  refine WL.stS 2 h rfl T42 h4 (vs := [.slice none 0 0]) rfl (one1 rfl) rfl rfl (fun w h => ?_)
  refine WL.p h Val.as ?_
  refine WL.nil ?_
  refine W.ret ?_
  exact finBox2 h 2 rfl h4 rfl A42 T42 rfl rfl (PSW.no h.toExt (by exact hA))
end Go.Proofs.Ytmiihhbgfijcmaa.K


/- Op: the reference, walked. -/
namespace Go.Proofs.Ytmiihhbgfijcmaa.K
open Go Go.RowKit
set_option linter.unusedVariables false
set_option linter.unusedSimpArgs false
set_option maxRecDepth 20000
theorem C60' : CF Try.prog 60 := ⟨_, Try.func60, rfl, rfl⟩
theorem opIn_calls (F : Fz) (w : World) (hF : Sub F (hv w)) (n low high : Int) :
    Calls Try.prog 33 #[.int .i64 n, .int .i64 low, .int .i64 high] w fun e w' => e = .returned (.bool (decide (low ≤ n ∧ n ≤ high))) ∧ Ext F w F w' := by
  refine calls 15 Try.func33 rfl rfl rfl ?_
  have h := Hp.start hF
  refine W.seq (W.region rfl ?_)
  refine WL.p h Val.as ?_
  refine WL.nil ?_
  refine W.seq (W.region rfl ?_)
  refine WL.p h Val.mv ?_
  refine WL.p h Val.mv ?_
  refine WL.p h (Val.ge rfl rfl) ?_
  refine WL.dec (fun d2 => ?_) (fun d2 => ?_)
  · refine WL.p h Val.mv ?_
    refine WL.p h Val.mv ?_
    refine WL.p h Val.mv ?_
    refine WL.p h (Val.le rfl rfl) ?_
    refine WL.dec (fun d6 => ?_) (fun d6 => ?_)
    · refine WL.p h (Val.pick rfl) ?_
      refine WL.p h Val.as ?_
      refine WL.nil ?_
      refine W.ret ?_
      exact fin1 (v := .bool true) rfl rfl ⟨by rw [decide_eq_true (show (low ≤ n ∧ n ≤ high) by omega)], h.toExt⟩
    · refine WL.p h (Val.pick rfl) ?_
      refine WL.p h Val.as ?_
      refine WL.nil ?_
      refine W.ret ?_
      exact fin1 (v := .bool false) rfl rfl ⟨by rw [decide_eq_false (show ¬ (low ≤ n ∧ n ≤ high) by omega)], h.toExt⟩
  · refine WL.p h Val.mv ?_
    refine WL.no rfl (?_)
    refine WL.no rfl (?_)
    refine WL.no rfl (?_)
    refine WL.p h (Val.pick rfl) ?_
    refine WL.p h Val.as ?_
    refine WL.nil ?_
    refine W.ret ?_
    exact fin1 (v := .bool false) rfl rfl ⟨by rw [decide_eq_false (show ¬ (low ≤ n ∧ n ≤ high) by omega)], h.toExt⟩
theorem opT_bool {t : T} (hvt : Vt t) (h2 : t.atom.k = 2) : t.atom.n = 0 ∨ t.atom.n = 1 := by
  obtain ⟨it, hit⟩ := hvt.it
  cases t with
  | node a ks =>
    obtain ⟨k, hk, hi⟩ := evalT_inner hvt.wf hit
    exact (hi.inv2 h2).2.1
set_option maxHeartbeats 8000000 in
theorem specOp_calls (F : Fz) (w0 : World) (hF : Sub F (hv w0)) (op : Int) (va vb : Value) (es fs : List At) (hrt : FRow F va es.length 4 (rowA es)) (hru : FRow F vb fs.length 4 (rowA fs)) (hB : es.length ≤ 1048576) (hB2 : fs.length ≤ 1048576) (hvt0 : ∀ t, treeP es = some t → Vt t) (hvu0 : ∀ u, treeP fs = some u → Vt u) : Calls Try.prog 28 #[.int .i64 op, .agg #[va], .agg #[vb]] w0 (PSW F w0 (opP op es fs)) := by
  refine calls 135 Try.func28 rfl rfl rfl ?_
  have h := Hp.start hF
  refine W.seq (W.region rfl ?_)
  refine WL.box h rfl (fun b2 w h => ?_)
  refine WL.box h rfl (fun b3 w h => ?_)
  refine WL.alloc h T42 (fun b4 w h => ?_)
  refine WL.p h Val.as ?_
  refine WL.nil ?_
  refine W.seq (W.seq (W.region rfl ?_))
  refine WL.p h (Val.ldS 0 A42 T42 rfl rfl rfl) ?_
  refine WL.call C16 (args := [.agg #[va]]) rfl ((specValidValue_calls F _ h.sub va es hrt hB).mono ?_)
  rintro e w' ⟨v1, rfl, hv1, hE⟩
  have h := h.call hE
  refine ⟨_, rfl, ?_⟩
  refine WL.p h (Val.not rfl) ?_
  cases ht : treeP es with
  | none =>
    obtain rfl : v1 = false := by cases v1; rfl; exact absurd (treeP_none ht) (hv1.1 rfl)
    refine WL.p h Val.mv ?_
    refine WL.no rfl (WL.no rfl (WL.no rfl (?_)))
    refine WL.p h (Val.pick rfl) ?_
    refine WL.p h Val.mv ?_
    refine WL.no rfl (WL.no rfl (WL.no rfl (?_)))
    refine WL.p h (Val.pick rfl) ?_
    refine WL.nil ?_
    refine W.condT rfl ?_
    refine W.seq (W.region rfl ?_)
    refine WL.call C49 (args := [.string wType]) rfl ((l6No_calls _ _ h.sub wType).mono ?_)
    rintro e w' ⟨rfl, hE⟩
    have h := h.call hE
    refine ⟨_, rfl, ?_⟩
    refine WL.p h (Val.ext (v := .agg #[.slice none 0 0]) rfl rfl) ?_
    refine WL.p h (Val.ext (v := .string wType) rfl rfl) ?_
    refine WL.stS 2 h rfl T42 rfl (vs := [.slice none 0 0]) rfl (one1 rfl) rfl rfl (fun w h => ?_)
    refine WL.p h Val.as ?_
    refine WL.nil ?_
    refine W.ret ?_
    exact finBox2 h 2 rfl rfl rfl A42 T42 rfl rfl (PSW.no h.toExt (by rw [opP, ht]))
  | some t =>
  have hvt := hvt0 t ht
  obtain ⟨rfl, hw, hlen, it, hit, hun⟩ := treeP_some ht
  obtain rfl : v1 = true := hv1.2 (by rw [hun]; simp)
  refine WL.p h Val.mv ?_
  refine WL.p h (Val.ldS 1 A42 T42 rfl rfl rfl) ?_
  refine WL.call C16 (args := [.agg #[vb]]) rfl ((specValidValue_calls F _ h.sub vb fs hru hB2).mono ?_)
  rintro e w' ⟨v2, rfl, hv2, hE⟩
  have h := h.call hE
  refine ⟨_, rfl, ?_⟩
  refine WL.p h (Val.not rfl) ?_
  cases hu : treeP fs with
  | none =>
    obtain rfl : v2 = false := by cases v2; rfl; exact absurd (treeP_none hu) (hv2.1 rfl)
    refine WL.p h (Val.pick rfl) ?_
    refine WL.p h Val.mv ?_
    refine WL.no rfl (WL.no rfl (WL.no rfl (?_)))
    refine WL.p h (Val.pick rfl) ?_
    refine WL.nil ?_
    refine W.condT rfl ?_
    refine W.seq (W.region rfl ?_)
    refine WL.call C49 (args := [.string wType]) rfl ((l6No_calls _ _ h.sub wType).mono ?_)
    rintro e w' ⟨rfl, hE⟩
    have h := h.call hE
    refine ⟨_, rfl, ?_⟩
    refine WL.p h (Val.ext (v := .agg #[.slice none 0 0]) rfl rfl) ?_
    refine WL.p h (Val.ext (v := .string wType) rfl rfl) ?_
    refine WL.stS 2 h rfl T42 rfl (vs := [.slice none 0 0]) rfl (one1 rfl) rfl rfl (fun w h => ?_)
    refine WL.p h Val.as ?_
    refine WL.nil ?_
    refine W.ret ?_
    exact finBox2 h 2 rfl rfl rfl A42 T42 rfl rfl (PSW.no h.toExt (by rw [opP, ht, hu]))
  | some u =>
  have hvu := hvu0 u hu
  obtain ⟨rfl, hw2, hlen2, it2, hit2, hun2⟩ := treeP_some hu
  obtain rfl : v2 = true := hv2.2 (by rw [hun2]; simp)
  refine WL.p h (Val.pick rfl) ?_
  refine WL.p h Val.mv ?_
  refine WL.p h Val.mv ?_
  refine WL.call C33' (args := [.int .i64 op, .int .i64 1, .int .i64 14]) rfl ((opIn_calls F _ h.sub op 1 14).mono ?_)
  rintro e w' ⟨rfl, hE⟩
  have h := h.call hE
  refine ⟨_, rfl, ?_⟩
  refine WL.p h (Val.not rfl) ?_
  by_cases hop : op < 1 ∨ 14 < op
  · have hd : decide (1 ≤ op ∧ op ≤ 14) = false := decide_eq_false (by omega)
    refine WL.p h (Val.pick rfl) ?_
    refine WL.nil ?_
    refine W.condT (congrArg (fun b => Value.bool (!b)) hd) ?_
    refine W.seq (W.region rfl ?_)
    refine WL.call C49 (args := [.string wType]) rfl ((l6No_calls _ _ h.sub wType).mono ?_)
    rintro e w' ⟨rfl, hE⟩
    have h := h.call hE
    refine ⟨_, rfl, ?_⟩
    refine WL.p h (Val.ext (v := .agg #[.slice none 0 0]) rfl rfl) ?_
    refine WL.p h (Val.ext (v := .string wType) rfl rfl) ?_
    refine WL.stS 2 h rfl T42 rfl (vs := [.slice none 0 0]) rfl (one1 rfl) rfl rfl (fun w h => ?_)
    refine WL.p h Val.as ?_
    refine WL.nil ?_
    refine W.ret ?_
    exact finBox2 h 2 rfl rfl rfl A42 T42 rfl rfl (PSW.no h.toExt (by rw [opP, ht, hu]; exact if_pos hop))
  have hd : decide (1 ≤ op ∧ op ≤ 14) = true := decide_eq_true (by omega)
  refine WL.p h (Val.pick rfl) ?_
  refine WL.nil ?_
  refine W.condF (congrArg (fun b => Value.bool (!b)) hd) ?_
  refine W.skip ?_
  have hP : opP op t.enc u.enc = opT op t u := by rw [opP, ht, hu]; exact if_neg hop
  refine W.seq (W.region rfl ?_)
  refine WL.p h (Val.ldS 0 A42 T42 rfl rfl rfl) ?_
  refine WL.p h (Val.ldS 1 A42 T42 rfl rfl rfl) ?_
  refine WL.call C44 (args := [.agg #[va], .agg #[vb]]) rfl ((l5Order_calls _ F _ h.sub va vb t u hw hw2 hrt hru hB hB2 rfl).mono ?_)
  rintro e w' ⟨rfl, hE⟩
  have h := h.call hE
  refine ⟨_, rfl, ?_⟩
  refine WL.p h Val.as ?_
  refine WL.nil ?_
  refine W.seq (W.region rfl ?_)
  refine WL.p h (Val.ldS 0 A42 T42 rfl rfl rfl) ?_
  refine WL.call C46 (args := [.agg #[va]]) rfl ((l6Kind_calls F _ h.sub va t.enc hrt t.atom (enc_last t)).mono ?_)
  rintro e w' ⟨rfl, hE⟩
  have h := h.call hE
  refine ⟨_, rfl, ?_⟩
  refine WL.p h Val.as ?_
  refine WL.nil ?_
  refine W.seq (W.seq (W.region rfl ?_))
  refine WL.p h Val.mv ?_
  refine WL.nil ?_
  refine W.block ?_
  refine W.seq (W.region rfl ?_)
  refine WL.p h (Val.eq (a := op) (b := 3) rfl rfl) ?_
  refine WL.dec (fun o3 => ?_) (fun o3 => ?_)
  · refine WL.p h Val.as ?_
    refine WL.nil ?_
    refine W.condT rfl ?_
    refine W.seq (W.region rfl ?_)
    refine WL.p h Val.mv ?_
    refine WL.p h (Val.eq (a := ordT t u) (b := 0) rfl rfl) ?_
    refine WL.call C47 (args := [.bool (decide (ordT t u = 0))]) rfl ((l5Bool_calls _ _ h.sub _).mono ?_)
    rintro e w' ⟨F9, s9, rfl, hE, hrow9⟩
    have h := h.call hE
    refine ⟨_, rfl, ?_⟩
    refine WL.stS 2 h rfl T42 rfl (vs := [s9]) rfl (one1 hrow9.one) rfl rfl (fun w h => ?_)
    refine WL.p h Val.as ?_
    refine WL.nil ?_
    refine W.ret ?_
    exact finBox2 (v := .string ⟨#[]⟩) h 2 rfl rfl rfl A42 T42 rfl rfl (PSW.bool h.toExt hrow9 (by rw [hP, opT, if_pos o3]))
  refine WL.p h Val.as ?_
  refine WL.nil ?_
  refine W.condF rfl ?_
  refine W.seq (W.region rfl ?_)
  refine WL.p h (Val.eq (a := op) (b := 4) rfl rfl) ?_
  refine WL.dec (fun o4 => ?_) (fun o4 => ?_)
  · refine WL.p h Val.as ?_
    refine WL.nil ?_
    refine W.condT rfl ?_
    refine W.seq (W.region rfl ?_)
    refine WL.p h Val.mv ?_
    refine WL.p h (Val.ne (a := ordT t u) (b := 0) rfl rfl) ?_
    refine WL.call C47 (args := [.bool (decide (ordT t u ≠ 0))]) rfl ((l5Bool_calls _ _ h.sub _).mono ?_)
    rintro e w' ⟨F9, s9, rfl, hE, hrow9⟩
    have h := h.call hE
    refine ⟨_, rfl, ?_⟩
    refine WL.stS 2 h rfl T42 rfl (vs := [s9]) rfl (one1 hrow9.one) rfl rfl (fun w h => ?_)
    refine WL.p h Val.as ?_
    refine WL.nil ?_
    refine W.ret ?_
    exact finBox2 (v := .string ⟨#[]⟩) h 2 rfl rfl rfl A42 T42 rfl rfl (PSW.bool h.toExt hrow9 (by rw [hP, opT, if_neg o3, if_pos o4]))
  refine WL.p h Val.as ?_
  refine WL.nil ?_
  refine W.condF rfl ?_
  refine W.seq (W.region rfl ?_)
  refine WL.p h (Val.eq (a := op) (b := 9) rfl rfl) ?_
  refine WL.dec (fun o9 => ?_) (fun o9 => ?_)
  · refine WL.p h Val.as ?_
    refine WL.nil ?_
    refine W.condT rfl ?_
    refine W.seq (W.region rfl ?_)
    refine WL.p h (Val.ldS 0 A42 T42 rfl rfl rfl) ?_
    refine WL.p h (Val.ldS 1 A42 T42 rfl rfl rfl) ?_
    refine WL.call C58 (args := [.agg #[va], .agg #[vb]]) rfl ((l6Has_calls F _ h.sub va vb t u hvt hvu hrt hru).mono ?_)
    rintro e w' ⟨F8, s8, rfl, hE, hrow8⟩
    have h := h.call hE
    refine ⟨_, rfl, ?_⟩
    refine WL.p h (Val.ext (v := .agg #[s8]) rfl rfl) ?_
    refine WL.p h (Val.ext (v := .string (hasA t u).2) rfl rfl) ?_
    refine WL.stS 2 h rfl T42 rfl (vs := [s8]) rfl (one1 hrow8.one) rfl rfl (fun w h => ?_)
    refine WL.p h Val.as ?_
    refine WL.nil ?_
    refine W.ret ?_
    exact finBox2 (v := .string (hasA t u).2) h 2 rfl rfl rfl A42 T42 rfl rfl (PSW.of (by rw [hP, opT, if_neg o3, if_neg o4, if_pos o9]) rfl h.toExt hrow8)
  refine WL.p h Val.as ?_
  refine WL.nil ?_
  refine W.condF rfl ?_
  refine W.seq (W.region rfl ?_)
  refine WL.p h (Val.eq (a := op) (b := 10) rfl rfl) ?_
  refine WL.dec (fun o10 => ?_) (fun o10 => ?_)
  · refine WL.p h Val.as ?_
    refine WL.nil ?_
    refine W.condT rfl ?_
    refine W.seq (W.region rfl ?_)
    refine WL.p h (Val.ldS 0 A42 T42 rfl rfl rfl) ?_
    refine WL.p h (Val.ldS 1 A42 T42 rfl rfl rfl) ?_
    refine WL.call C59 (args := [.agg #[va], .agg #[vb]]) rfl ((l6Add_calls F _ h.sub va vb t u hvt hvu hrt hru).mono ?_)
    rintro e w' ⟨F8, s8, rfl, hE, hrow8⟩
    have h := h.call hE
    refine ⟨_, rfl, ?_⟩
    refine WL.p h (Val.ext (v := .agg #[s8]) rfl rfl) ?_
    refine WL.p h (Val.ext (v := .string (addA t u).2) rfl rfl) ?_
    refine WL.stS 2 h rfl T42 rfl (vs := [s8]) rfl (one1 hrow8.one) rfl rfl (fun w h => ?_)
    refine WL.p h Val.as ?_
    refine WL.nil ?_
    refine W.ret ?_
    exact finBox2 (v := .string (addA t u).2) h 2 rfl rfl rfl A42 T42 rfl rfl (PSW.of (by rw [hP, opT, if_neg o3, if_neg o4, if_neg o9, if_pos o10]) rfl h.toExt hrow8)
  refine WL.p h Val.as ?_
  refine WL.nil ?_
  refine W.condF rfl ?_
  refine W.skip ?_
  refine W.seq (W.seq (W.region rfl ?_))
  refine WL.p h Val.mv ?_
  refine WL.p h (Val.ldS 1 A42 T42 rfl rfl rfl) ?_
  refine WL.call C46 (args := [.agg #[vb]]) rfl ((l6Kind_calls F _ h.sub vb u.enc hru u.atom (enc_last u)).mono ?_)
  rintro e w' ⟨rfl, hE⟩
  have h := h.call hE
  refine ⟨_, rfl, ?_⟩
  refine WL.p h (Val.ne (a := t.atom.k) (b := u.atom.k) rfl rfl) ?_
  refine WL.dec (fun kne => ?_) (fun kne => ?_)
  · refine WL.nil ?_
    refine W.condT rfl ?_
    refine W.seq (W.region rfl ?_)
    refine WL.call C49 (args := [.string wType]) rfl ((l6No_calls _ _ h.sub wType).mono ?_)
    rintro e w' ⟨rfl, hE⟩
    have h := h.call hE
    refine ⟨_, rfl, ?_⟩
    refine WL.p h (Val.ext (v := .agg #[.slice none 0 0]) rfl rfl) ?_
    refine WL.p h (Val.ext (v := .string wType) rfl rfl) ?_
    refine WL.stS 2 h rfl T42 rfl (vs := [.slice none 0 0]) rfl (one1 rfl) rfl rfl (fun w h => ?_)
    refine WL.p h Val.as ?_
    refine WL.nil ?_
    refine W.ret ?_
    exact finBox2 h 2 rfl rfl rfl A42 T42 rfl rfl (PSW.no h.toExt (by rw [hP, opT, if_neg o3, if_neg o4, if_neg o9, if_neg o10, if_pos kne]))
  have keq : t.atom.k = u.atom.k := Decidable.not_not.1 kne
  refine WL.nil ?_
  refine W.condF rfl ?_
  refine W.skip ?_
  refine W.seq (W.seq (W.region rfl ?_))
  refine WL.p h Val.mv ?_
  refine WL.p h (Val.le (a := op) (b := 2) rfl rfl) ?_
  refine WL.dec (fun o2 => ?_) (fun o2 => ?_)
  · refine WL.nil ?_
    refine W.condT rfl ?_
    refine W.seq (W.seq (W.region rfl ?_))
    refine WL.p h Val.mv ?_
    refine WL.p h (Val.ne (a := t.atom.k) (b := 2) rfl rfl) ?_
    refine WL.dec (fun k2 => ?_) (fun k2 => ?_)
    · refine WL.nil ?_
      refine W.condT rfl ?_
      refine W.seq (W.region rfl ?_)
      refine WL.call C49 (args := [.string wType]) rfl ((l6No_calls _ _ h.sub wType).mono ?_)
      rintro e w' ⟨rfl, hE⟩
      have h := h.call hE
      refine ⟨_, rfl, ?_⟩
      refine WL.p h (Val.ext (v := .agg #[.slice none 0 0]) rfl rfl) ?_
      refine WL.p h (Val.ext (v := .string wType) rfl rfl) ?_
      refine WL.stS 2 h rfl T42 rfl (vs := [.slice none 0 0]) rfl (one1 rfl) rfl rfl (fun w h => ?_)
      refine WL.p h Val.as ?_
      refine WL.nil ?_
      refine W.ret ?_
      exact finBox2 h 2 rfl rfl rfl A42 T42 rfl rfl (PSW.no h.toExt (by rw [hP, opT, if_neg o3, if_neg o4, if_neg o9, if_neg o10, if_neg kne, if_pos o2, if_pos k2]))
    have hk2 : t.atom.k = 2 := Decidable.not_not.1 k2
    have ha1 := opT_bool hvt hk2
    have ha2 := opT_bool hvu (keq ▸ hk2)
    refine WL.nil ?_
    refine W.condF rfl ?_
    refine W.skip ?_
    refine W.seq (W.seq (W.region rfl ?_))
    refine WL.p h Val.mv ?_
    refine WL.p h (Val.eq (a := op) (b := 1) rfl rfl) ?_
    refine WL.dec (fun o1 => ?_) (fun o1 => ?_)
    · refine WL.nil ?_
      refine W.condT rfl ?_
      refine W.seq (W.draw (fun w => Hp w0 F F [.box b2 [va] 42, .box b3 [vb] 42, .box b4 [.slice none 0 0] 42] w) [8, 9, 10] 11 (by kernel_rfl) rfl rfl ?_)
      have hS := h.drewN 1
      refine WD.take 0 rfl (by kernel_rfl) (fun _ _ _ h => fin_panic h) hS (Val.ldS 0 A42 T42 rfl rfl rfl) ?_
      refine WD.take 3 rfl (by kernel_rfl) (fun _ _ _ h => fin_panic h) hS (Val.ldS 1 A42 T42 rfl rfl rfl) ?_
      refine WD.one 1 rfl (by kernel_rfl) ?_
      refine WL.call C48 (args := [.agg #[va]]) rfl ((l5Last_calls F _ hS.sub va t.enc (hrt) t.atom (enc_last t)).mono ?_)
      rintro e w' ⟨rfl, hE⟩
      have hS := hS.call hE
      refine ⟨_, rfl, ?_⟩
      refine WL.nil ?_
      refine ⟨hS, ?_⟩
      refine WD.take 2 rfl (by kernel_rfl) (fun _ _ _ h => fin_panic h) hS (Val.fld E79_1 rfl rfl) ?_
      refine WD.one 4 rfl (by kernel_rfl) ?_
      refine WL.call C48 (args := [.agg #[vb]]) rfl ((l5Last_calls F _ hS.sub vb u.enc (hru) u.atom (enc_last u)).mono ?_)
      rintro e w' ⟨rfl, hE⟩
      have hS := hS.call hE
      refine ⟨_, rfl, ?_⟩
      refine WL.nil ?_
      refine ⟨hS, ?_⟩
      refine WD.take 5 rfl (by kernel_rfl) (fun _ _ _ h => fin_panic h) hS (Val.fld E79_1 rfl rfl) ?_
      refine WD.take 6 rfl (by kernel_rfl) (fun _ _ _ h => fin_panic h) hS (Val.addi (a := t.atom.n) (b := u.atom.n) (c := t.atom.n + u.atom.n) rfl rfl (by omega)) ?_
      refine WD.take 7 rfl (by kernel_rfl) (fun _ _ _ h => fin_panic h) hS (Val.gt (a := t.atom.n + u.atom.n) (b := 0) rfl rfl) ?_
      have h := hS
      refine WD.last 8 rfl (by kernel_rfl) rfl ?_
      refine WL.call C47 (args := [.bool (decide (0 < t.atom.n + u.atom.n))]) rfl ((l5Bool_calls _ _ h.sub _).mono ?_)
      rintro e w' ⟨F9, s9, rfl, hE, hrow9⟩
      have h := h.call hE
      refine ⟨_, rfl, ?_⟩
      refine WL.nil ?_
      refine WD.last 9 rfl (by kernel_rfl) rfl ?_
      refine WL.stS 2 h rfl T42 rfl (vs := [s9]) rfl (one1 hrow9.one) rfl rfl (fun w h => ?_)
      refine WL.nil ?_
      refine WD.last 10 rfl (by kernel_rfl) rfl ?_
      refine WL.p h Val.as ?_
      refine WL.nil ?_
      refine WD.nil (by kernel_rfl) ?_
      refine W.ret ?_
      exact finBox2 (v := .string ⟨#[]⟩) h 2 rfl rfl rfl A42 T42 rfl rfl (PSW.bool h.toExt hrow9 (by rw [hP, opT, if_neg o3, if_neg o4, if_neg o9, if_neg o10, if_neg kne, if_pos o2, if_neg k2, if_pos o1]))
    refine WL.nil ?_
    refine W.condF rfl ?_
    refine W.skip ?_
    refine W.seq (W.draw (fun w => Hp w0 F F [.box b2 [va] 42, .box b3 [vb] 42, .box b4 [.slice none 0 0] 42] w) [8, 9, 10] 11 (by kernel_rfl) rfl rfl ?_)
    have hS := h.drewN 1
    refine WD.take 0 rfl (by kernel_rfl) (fun _ _ _ h => fin_panic h) hS (Val.ldS 0 A42 T42 rfl rfl rfl) ?_
    refine WD.take 3 rfl (by kernel_rfl) (fun _ _ _ h => fin_panic h) hS (Val.ldS 1 A42 T42 rfl rfl rfl) ?_
    refine WD.one 1 rfl (by kernel_rfl) ?_
    refine WL.call C48 (args := [.agg #[va]]) rfl ((l5Last_calls F _ hS.sub va t.enc (hrt) t.atom (enc_last t)).mono ?_)
    rintro e w' ⟨rfl, hE⟩
    have hS := hS.call hE
    refine ⟨_, rfl, ?_⟩
    refine WL.nil ?_
    refine ⟨hS, ?_⟩
    refine WD.take 2 rfl (by kernel_rfl) (fun _ _ _ h => fin_panic h) hS (Val.fld E79_1 rfl rfl) ?_
    refine WD.one 4 rfl (by kernel_rfl) ?_
    refine WL.call C48 (args := [.agg #[vb]]) rfl ((l5Last_calls F _ hS.sub vb u.enc (hru) u.atom (enc_last u)).mono ?_)
    rintro e w' ⟨rfl, hE⟩
    have hS := hS.call hE
    refine ⟨_, rfl, ?_⟩
    refine WL.nil ?_
    refine ⟨hS, ?_⟩
    refine WD.take 5 rfl (by kernel_rfl) (fun _ _ _ h => fin_panic h) hS (Val.fld E79_1 rfl rfl) ?_
    refine WD.take 6 rfl (by kernel_rfl) (fun _ _ _ h => fin_panic h) hS (Val.addi (a := t.atom.n) (b := u.atom.n) (c := t.atom.n + u.atom.n) rfl rfl (by omega)) ?_
    refine WD.take 7 rfl (by kernel_rfl) (fun _ _ _ h => fin_panic h) hS (Val.eq (a := t.atom.n + u.atom.n) (b := 2) rfl rfl) ?_
    have h := hS
    refine WD.last 8 rfl (by kernel_rfl) rfl ?_
    refine WL.call C47 (args := [.bool (decide (t.atom.n + u.atom.n = 2))]) rfl ((l5Bool_calls _ _ h.sub _).mono ?_)
    rintro e w' ⟨F9, s9, rfl, hE, hrow9⟩
    have h := h.call hE
    refine ⟨_, rfl, ?_⟩
    refine WL.nil ?_
    refine WD.last 9 rfl (by kernel_rfl) rfl ?_
    refine WL.stS 2 h rfl T42 rfl (vs := [s9]) rfl (one1 hrow9.one) rfl rfl (fun w h => ?_)
    refine WL.nil ?_
    refine WD.last 10 rfl (by kernel_rfl) rfl ?_
    refine WL.p h Val.as ?_
    refine WL.nil ?_
    refine WD.nil (by kernel_rfl) ?_
    refine W.ret ?_
    exact finBox2 (v := .string ⟨#[]⟩) h 2 rfl rfl rfl A42 T42 rfl rfl (PSW.bool h.toExt hrow9 (by rw [hP, opT, if_neg o3, if_neg o4, if_neg o9, if_neg o10, if_neg kne, if_pos o2, if_neg k2, if_neg o1]))
  refine WL.nil ?_
  refine W.condF rfl ?_
  refine W.skip ?_
  refine W.seq (W.seq (W.region rfl ?_))
  refine WL.p h Val.mv ?_
  refine WL.p h (Val.le (a := op) (b := 8) rfl rfl) ?_
  refine WL.dec (fun o8 => ?_) (fun o8 => ?_)
  · refine WL.nil ?_
    refine W.condT rfl ?_
    refine W.seq (W.seq (W.region rfl ?_))
    refine WL.p h Val.mv ?_
    refine WL.p h (Val.eq (a := t.atom.k) (b := 1) rfl rfl) ?_
    refine WL.dec (fun k1 => ?_) (fun k1 => ?_)
    · refine WL.p h Val.mv ?_
      refine WL.no rfl (WL.no rfl (?_))
      refine WL.p h (Val.pick rfl) ?_
      refine WL.nil ?_
      refine W.condT rfl ?_
      refine W.seq (W.region rfl ?_)
      refine WL.call C49 (args := [.string wType]) rfl ((l6No_calls _ _ h.sub wType).mono ?_)
      rintro e w' ⟨rfl, hE⟩
      have h := h.call hE
      refine ⟨_, rfl, ?_⟩
      refine WL.p h (Val.ext (v := .agg #[.slice none 0 0]) rfl rfl) ?_
      refine WL.p h (Val.ext (v := .string wType) rfl rfl) ?_
      refine WL.stS 2 h rfl T42 rfl (vs := [.slice none 0 0]) rfl (one1 rfl) rfl rfl (fun w h => ?_)
      refine WL.p h Val.as ?_
      refine WL.nil ?_
      refine W.ret ?_
      exact finBox2 h 2 rfl rfl rfl A42 T42 rfl rfl (PSW.no h.toExt (by rw [hP, opT, if_neg o3, if_neg o4, if_neg o9, if_neg o10, if_neg kne, if_neg o2, if_pos o8, if_pos (Or.inl k1)]))
    refine WL.p h Val.mv ?_
    refine WL.p h Val.mv ?_
    refine WL.p h (Val.eq (a := t.atom.k) (b := 6) rfl rfl) ?_
    refine WL.dec (fun k6 => ?_) (fun k6 => ?_)
    · refine WL.p h (Val.pick rfl) ?_
      refine WL.nil ?_
      refine W.condT rfl ?_
      refine W.seq (W.region rfl ?_)
      refine WL.call C49 (args := [.string wType]) rfl ((l6No_calls _ _ h.sub wType).mono ?_)
      rintro e w' ⟨rfl, hE⟩
      have h := h.call hE
      refine ⟨_, rfl, ?_⟩
      refine WL.p h (Val.ext (v := .agg #[.slice none 0 0]) rfl rfl) ?_
      refine WL.p h (Val.ext (v := .string wType) rfl rfl) ?_
      refine WL.stS 2 h rfl T42 rfl (vs := [.slice none 0 0]) rfl (one1 rfl) rfl rfl (fun w h => ?_)
      refine WL.p h Val.as ?_
      refine WL.nil ?_
      refine W.ret ?_
      exact finBox2 h 2 rfl rfl rfl A42 T42 rfl rfl (PSW.no h.toExt (by rw [hP, opT, if_neg o3, if_neg o4, if_neg o9, if_neg o10, if_neg kne, if_neg o2, if_pos o8, if_pos (Or.inr k6)]))
    refine WL.p h (Val.pick rfl) ?_
    refine WL.nil ?_
    refine W.condF rfl ?_
    refine W.skip ?_
    refine W.seq (W.seq (W.region rfl ?_))
    refine WL.p h Val.mv ?_
    refine WL.nil ?_
    refine W.block ?_
    refine W.seq (W.region rfl ?_)
    refine WL.p h (Val.eq (a := op) (b := 5) rfl rfl) ?_
    refine WL.dec (fun o5 => ?_) (fun o5 => ?_)
    · refine WL.p h Val.as ?_
      refine WL.nil ?_
      refine W.condT rfl ?_
      refine W.seq (W.region rfl ?_)
      refine WL.p h Val.mv ?_
      refine WL.p h (Val.lt (a := ordT t u) (b := 0) rfl rfl) ?_
      refine WL.call C47 (args := [.bool (decide (ordT t u < 0))]) rfl ((l5Bool_calls _ _ h.sub _).mono ?_)
      rintro e w' ⟨F9, s9, rfl, hE, hrow9⟩
      have h := h.call hE
      refine ⟨_, rfl, ?_⟩
      refine WL.stS 2 h rfl T42 rfl (vs := [s9]) rfl (one1 hrow9.one) rfl rfl (fun w h => ?_)
      refine WL.p h Val.as ?_
      refine WL.nil ?_
      refine W.ret ?_
      exact finBox2 (v := .string ⟨#[]⟩) h 2 rfl rfl rfl A42 T42 rfl rfl (PSW.bool h.toExt hrow9 (by rw [hP, opT, if_neg o3, if_neg o4, if_neg o9, if_neg o10, if_neg kne, if_neg o2, if_pos o8, if_neg (not_or.2 ⟨k1, k6⟩), if_pos o5]))
    refine WL.p h Val.as ?_
    refine WL.nil ?_
    refine W.condF rfl ?_
    refine W.seq (W.region rfl ?_)
    refine WL.p h (Val.eq (a := op) (b := 6) rfl rfl) ?_
    refine WL.dec (fun o6 => ?_) (fun o6 => ?_)
    · refine WL.p h Val.as ?_
      refine WL.nil ?_
      refine W.condT rfl ?_
      refine W.seq (W.region rfl ?_)
      refine WL.p h Val.mv ?_
      refine WL.p h (Val.le (a := ordT t u) (b := 0) rfl rfl) ?_
      refine WL.call C47 (args := [.bool (decide (ordT t u ≤ 0))]) rfl ((l5Bool_calls _ _ h.sub _).mono ?_)
      rintro e w' ⟨F9, s9, rfl, hE, hrow9⟩
      have h := h.call hE
      refine ⟨_, rfl, ?_⟩
      refine WL.stS 2 h rfl T42 rfl (vs := [s9]) rfl (one1 hrow9.one) rfl rfl (fun w h => ?_)
      refine WL.p h Val.as ?_
      refine WL.nil ?_
      refine W.ret ?_
      exact finBox2 (v := .string ⟨#[]⟩) h 2 rfl rfl rfl A42 T42 rfl rfl (PSW.bool h.toExt hrow9 (by rw [hP, opT, if_neg o3, if_neg o4, if_neg o9, if_neg o10, if_neg kne, if_neg o2, if_pos o8, if_neg (not_or.2 ⟨k1, k6⟩), if_neg o5, if_pos o6]))
    refine WL.p h Val.as ?_
    refine WL.nil ?_
    refine W.condF rfl ?_
    refine W.seq (W.region rfl ?_)
    refine WL.p h (Val.eq (a := op) (b := 7) rfl rfl) ?_
    refine WL.dec (fun o7 => ?_) (fun o7 => ?_)
    · refine WL.p h Val.as ?_
      refine WL.nil ?_
      refine W.condT rfl ?_
      refine W.seq (W.region rfl ?_)
      refine WL.p h Val.mv ?_
      refine WL.p h (Val.gt (a := ordT t u) (b := 0) rfl rfl) ?_
      refine WL.call C47 (args := [.bool (decide (0 < ordT t u))]) rfl ((l5Bool_calls _ _ h.sub _).mono ?_)
      rintro e w' ⟨F9, s9, rfl, hE, hrow9⟩
      have h := h.call hE
      refine ⟨_, rfl, ?_⟩
      refine WL.stS 2 h rfl T42 rfl (vs := [s9]) rfl (one1 hrow9.one) rfl rfl (fun w h => ?_)
      refine WL.p h Val.as ?_
      refine WL.nil ?_
      refine W.ret ?_
      exact finBox2 (v := .string ⟨#[]⟩) h 2 rfl rfl rfl A42 T42 rfl rfl (PSW.bool h.toExt hrow9 (by rw [hP, opT, if_neg o3, if_neg o4, if_neg o9, if_neg o10, if_neg kne, if_neg o2, if_pos o8, if_neg (not_or.2 ⟨k1, k6⟩), if_neg o5, if_neg o6, if_pos o7]))
    refine WL.p h Val.as ?_
    refine WL.nil ?_
    refine W.condF rfl ?_
    refine W.skip ?_
    refine W.seq (W.region rfl ?_)
    refine WL.p h Val.mv ?_
    refine WL.p h (Val.ge (a := ordT t u) (b := 0) rfl rfl) ?_
    refine WL.call C47 (args := [.bool (decide (0 ≤ ordT t u))]) rfl ((l5Bool_calls _ _ h.sub _).mono ?_)
    rintro e w' ⟨F9, s9, rfl, hE, hrow9⟩
    have h := h.call hE
    refine ⟨_, rfl, ?_⟩
    refine WL.stS 2 h rfl T42 rfl (vs := [s9]) rfl (one1 hrow9.one) rfl rfl (fun w h => ?_)
    refine WL.p h Val.as ?_
    refine WL.nil ?_
    refine W.ret ?_
    exact finBox2 (v := .string ⟨#[]⟩) h 2 rfl rfl rfl A42 T42 rfl rfl (PSW.bool h.toExt hrow9 (by rw [hP, opT, if_neg o3, if_neg o4, if_neg o9, if_neg o10, if_neg kne, if_neg o2, if_pos o8, if_neg (not_or.2 ⟨k1, k6⟩), if_neg o5, if_neg o6, if_neg o7]))
  refine WL.nil ?_
  refine W.condF rfl ?_
  refine W.skip ?_
  refine W.seq (W.seq (W.region rfl ?_))
  refine WL.p h Val.mv ?_
  refine WL.p h (Val.ne (a := t.atom.k) (b := 3) rfl rfl) ?_
  refine WL.dec (fun k3 => ?_) (fun k3 => ?_)
  · refine WL.nil ?_
    refine W.condT rfl ?_
    refine W.seq (W.region rfl ?_)
    refine WL.call C49 (args := [.string wType]) rfl ((l6No_calls _ _ h.sub wType).mono ?_)
    rintro e w' ⟨rfl, hE⟩
    have h := h.call hE
    refine ⟨_, rfl, ?_⟩
    refine WL.p h (Val.ext (v := .agg #[.slice none 0 0]) rfl rfl) ?_
    refine WL.p h (Val.ext (v := .string wType) rfl rfl) ?_
    refine WL.stS 2 h rfl T42 rfl (vs := [.slice none 0 0]) rfl (one1 rfl) rfl rfl (fun w h => ?_)
    refine WL.p h Val.as ?_
    refine WL.nil ?_
    refine W.ret ?_
    exact finBox2 h 2 rfl rfl rfl A42 T42 rfl rfl (PSW.no h.toExt (by rw [hP, opT, if_neg o3, if_neg o4, if_neg o9, if_neg o10, if_neg kne, if_neg o2, if_neg o8, if_pos k3]))
  refine WL.nil ?_
  refine W.condF rfl ?_
  refine W.skip ?_
  refine W.seq (W.draw (fun w => Hp w0 F F [.box b2 [va] 42, .box b3 [vb] 42, .box b4 [.slice none 0 0] 42] w) [10, 11] 12 (by kernel_rfl) rfl rfl ?_)
  have hS := h.drewN 1
  refine WD.take 0 rfl (by kernel_rfl) (fun _ _ _ h => fin_panic h) hS Val.mv ?_
  refine WD.take 1 rfl (by kernel_rfl) (fun _ _ _ h => fin_panic h) hS (Val.ldS 0 A42 T42 rfl rfl rfl) ?_
  refine WD.take 4 rfl (by kernel_rfl) (fun _ _ _ h => fin_panic h) hS (Val.ldS 1 A42 T42 rfl rfl rfl) ?_
  refine WD.one 2 rfl (by kernel_rfl) ?_
  refine WL.call C48 (args := [.agg #[va]]) rfl ((l5Last_calls F _ hS.sub va t.enc (hrt) t.atom (enc_last t)).mono ?_)
  rintro e w' ⟨rfl, hE⟩
  have hS := hS.call hE
  refine ⟨_, rfl, ?_⟩
  refine WL.nil ?_
  refine ⟨hS, ?_⟩
  refine WD.take 3 rfl (by kernel_rfl) (fun _ _ _ h => fin_panic h) hS (Val.fld E79_1 rfl rfl) ?_
  refine WD.one 5 rfl (by kernel_rfl) ?_
  refine WL.call C48 (args := [.agg #[vb]]) rfl ((l5Last_calls F _ hS.sub vb u.enc (hru) u.atom (enc_last u)).mono ?_)
  rintro e w' ⟨rfl, hE⟩
  have hS := hS.call hE
  refine ⟨_, rfl, ?_⟩
  refine WL.nil ?_
  refine ⟨hS, ?_⟩
  refine WD.take 6 rfl (by kernel_rfl) (fun _ _ _ h => fin_panic h) hS (Val.fld E79_1 rfl rfl) ?_
  refine WD.one 7 rfl (by kernel_rfl) ?_
  refine WL.call C60' (args := [.int .i64 op, .int .i64 t.atom.n, .int .i64 u.atom.n]) rfl ((l6Number_calls F _ hS.sub op t.atom.n u.atom.n hvt.num hvu.num o10).mono ?_)
  rintro e w' ⟨F8, s8, rfl, hE, hrow8⟩
  have h := hS.call hE
  refine ⟨_, rfl, ?_⟩
  refine WL.nil ?_
  have hS := h.weak (Sub.refl _) hE.ext
  refine ⟨hS, ?_⟩
  refine WD.take 8 rfl (by kernel_rfl) (fun _ _ _ h => fin_panic h) hS (Val.ext (v := .agg #[s8]) rfl rfl) ?_
  refine WD.take 9 rfl (by kernel_rfl) (fun _ _ _ h => fin_panic h) hS (Val.ext (v := .string (numR op t.atom.n u.atom.n).at.2) rfl rfl) ?_
  refine WD.last 10 rfl (by kernel_rfl) rfl ?_
  refine WL.stS 2 h rfl T42 rfl (vs := [s8]) rfl (one1 hrow8.one) rfl rfl (fun w h => ?_)
  refine WL.nil ?_
  refine WD.last 11 rfl (by kernel_rfl) rfl ?_
  refine WL.p h Val.as ?_
  refine WL.nil ?_
  refine WD.nil (by kernel_rfl) ?_
  refine W.ret ?_
  exact finBox2 (v := .string (numR op t.atom.n u.atom.n).at.2) h 2 rfl rfl rfl A42 T42 rfl rfl (PSW.of (l' := (numR op t.atom.n u.atom.n).at) (by rw [hP, opT, if_neg o3, if_neg o4, if_neg o9, if_neg o10, if_neg kne, if_neg o2, if_neg o8, if_neg k3]) rfl h.toExt hrow8)
end Go.Proofs.Ytmiihhbgfijcmaa.K


