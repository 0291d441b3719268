/- Numbers: the reference's and the program's functions, walked. -/
import Derived.Test.YtmiihhbgfijcmaaNp
import Derived.Test.YtmiihhbgfijcmaaUi
import Derived.Test.YtmiihhbgfijcmaaSh
namespace Go.Proofs.Ytmiihhbgfijcmaa.K
open Go Go.RowKit
set_option linter.unusedVariables false
set_option linter.unusedSimpArgs false
set_option maxRecDepth 20000
theorem C89 : CF Try.prog 89 := ⟨_, Try.func89, rfl, rfl⟩
theorem C60 : CF Try.prog 60 := ⟨_, Try.func60, rfl, rfl⟩
theorem C94 : CF Try.prog 94 := ⟨_, Try.func94, rfl, rfl⟩
theorem C95 : CF Try.prog 95 := ⟨_, Try.func95, rfl, rfl⟩
theorem C107 : CF Try.prog 107 := ⟨_, Try.func107, rfl, rfl⟩
def Nr.at : Nr → List At × ByteArray
  | .ok z => ([⟨3, z, ⟨#[]⟩, 0⟩], ⟨#[]⟩)
  | .no w => ([], w)
/-- What a function tells that hands back a number and whether it is one. -/
def PNum (F : Fz) (w0 : World) (z : Int) (e : Ending) (w : World) : Prop := ∃ r ok, e = .returned (.tuple #[.int .i64 r, .bool ok]) ∧ Ext F w0 F w ∧ (ok = true ↔ inR z) ∧ (ok = true → r = z)
theorem l6Times_calls (F : Fz) (w0 : World) (hF : Sub F (hv w0)) (x y : Int) (hx : inR x) (hy : inR y) : Calls Try.prog 89 #[.int .i64 x, .int .i64 y] w0 (PNum F w0 (x * y)) := by
  refine calls 40 Try.func89 rfl rfl rfl ?_
  have h := Hp.start hF
  have hfin : ∀ {w : World} {r : Int} {ok : Bool}, Hp w0 F F [] w → (ok = true ↔ inR (x * y)) → (ok = true → r = x * y) → PNum F w0 (x * y) (.returned (.tuple #[.int .i64 r, .bool ok])) w := fun h h1 h2 => ⟨_, _, rfl, h.toExt, h1, h2⟩
  refine W.seq (W.region rfl ?_)
  refine WL.p h Val.as ?_
  refine WL.p h Val.as ?_
  refine WL.nil ?_
  refine W.cut (fun R w => Hp w0 F F [] w ∧ R 0 = .int .i64 x ∧ R 1 = .int .i64 y ∧ x ≠ 0 ∧ y ≠ 0) ?_ ?_
  · refine W.seq (W.region rfl ?_)
    refine WL.p h Val.mv ?_
    refine WL.p h (Val.eq (a := x) (b := 0) rfl rfl) ?_
    refine WL.dec (fun d1 => ?_) (fun d1 => ?_)
    · refine WL.p h Val.mv ?_
      refine WL.no rfl (?_)
      refine WL.no rfl (?_)
      refine WL.p h (Val.pick rfl) ?_
      refine WL.nil ?_
      refine W.condT rfl ?_
      refine W.seq (W.region rfl ?_)
      refine WL.p h Val.as ?_
      refine WL.p h Val.as ?_
      refine WL.nil ?_
      refine W.ret ?_
      exact fin2 (v := .int .i64 0) (x := .bool true) rfl rfl rfl (hfin h (iff_of_true rfl (by rcases (show x = 0 ∨ y = 0 by omega) with e | e <;> rw [e] <;> simp [inR])) (fun _ => by rcases (show x = 0 ∨ y = 0 by omega) with e | e <;> rw [e] <;> simp))
    · refine WL.p h Val.mv ?_
      refine WL.p h Val.mv ?_
      refine WL.p h (Val.eq (a := y) (b := 0) rfl rfl) ?_
      refine WL.dec (fun d4 => ?_) (fun d4 => ?_)
      · refine WL.p h (Val.pick rfl) ?_
        refine WL.nil ?_
        refine W.condT rfl ?_
        refine W.seq (W.region rfl ?_)
        refine WL.p h Val.as ?_
        refine WL.p h Val.as ?_
        refine WL.nil ?_
        refine W.ret ?_
        exact fin2 (v := .int .i64 0) (x := .bool true) rfl rfl rfl (hfin h (iff_of_true rfl (by rcases (show x = 0 ∨ y = 0 by omega) with e | e <;> rw [e] <;> simp [inR])) (fun _ => by rcases (show x = 0 ∨ y = 0 by omega) with e | e <;> rw [e] <;> simp))
      · refine WL.p h (Val.pick rfl) ?_
        refine WL.nil ?_
        refine W.condF rfl ?_
        refine W.skip ?_
        exact ⟨h, rfl, rfl, by omega, by omega⟩
  clear h
  rintro R w ⟨h, h0, h1, hx0, hy0⟩
  obtain ⟨z, hz⟩ : ∃ z, z = IntKind.i64.wrap (x * y) := ⟨_, rfl⟩
  obtain ⟨q, hq⟩ : ∃ q, q = IntKind.i64.wrap (z.tdiv y) := ⟨_, rfl⟩
  have hres := times_ok hx hy hx0 hy0 hz hq
  have hzz : inR (x * y) → z = x * y := fun h => by rw [hz]; exact wrap_in h
  refine W.seq (W.region rfl ?_)
  refine WL.p h Val.mv ?_
  refine WL.p h Val.mv ?_
  refine WL.p h (Val.mul h0 h1) ?_
  refine WL.p h Val.as ?_
  refine WL.nil ?_
  refine W.seq (W.region rfl ?_)
  refine WL.p h Val.mv ?_
  refine WL.p h Val.mv ?_
  refine WL.p h Val.mv ?_
  refine WL.p h (Val.quo (a := z) (b := y) (show Value.int .i64 _ = _ by rw [hz]) h1 hy0) ?_
  refine WL.p h Val.mv ?_
  refine WL.p h (Val.eq (a := q) (b := x) (show Value.int .i64 _ = _ by rw [hq]) h0) ?_
  refine WL.dec (fun d5 => ?_) (fun d5 => ?_)
  · refine WL.p h Val.mv ?_
    refine WL.p h Val.mv ?_
    refine WL.p h (Val.eq (a := x) (b := -1) h0 rfl) ?_
    refine WL.dec (fun d8 => ?_) (fun d8 => ?_)
    · refine WL.p h Val.mv ?_
      refine WL.p h Val.mv ?_
      refine WL.p h (Val.eq (a := y) (b := -9223372036854775808) h1 rfl) ?_
      refine WL.dec (fun d11 => ?_) (fun d11 => ?_)
      · refine WL.p h (Val.pick rfl) ?_
        refine WL.p h (Val.not rfl) ?_
        refine WL.p h (Val.pick rfl) ?_
        refine WL.p h Val.mv ?_
        refine WL.no rfl (?_)
        refine WL.no rfl (?_)
        refine WL.no rfl (?_)
        refine WL.no rfl (?_)
        refine WL.no rfl (?_)
        refine WL.no rfl (?_)
        refine WL.no rfl (?_)
        refine WL.p h (Val.pick rfl) ?_
        refine WL.p h Val.as ?_
        refine WL.p h Val.as ?_
        refine WL.nil ?_
        refine W.ret ?_
        exact fin2 (v := .int .i64 z) (x := .bool false) rfl (show Value.int .i64 _ = _ by rw [hz]) rfl (hfin h (iff_of_false (by simp) (fun e => by have := hres.2 e; omega)) (by simp))
      · refine WL.p h (Val.pick rfl) ?_
        refine WL.p h (Val.not rfl) ?_
        refine WL.p h (Val.pick rfl) ?_
        refine WL.p h Val.mv ?_
        refine WL.p h Val.mv ?_
        refine WL.p h (Val.eq (a := y) (b := -1) h1 rfl) ?_
        refine WL.dec (fun d17 => ?_) (fun d17 => ?_)
        · refine WL.p h Val.mv ?_
          refine WL.p h Val.mv ?_
          refine WL.p h (Val.eq (a := x) (b := -9223372036854775808) h0 rfl) ?_
          refine WL.dec (fun d20 => ?_) (fun d20 => ?_)
          · refine WL.p h (Val.pick rfl) ?_
            refine WL.p h (Val.not rfl) ?_
            refine WL.p h (Val.pick rfl) ?_
            refine WL.p h Val.as ?_
            refine WL.p h Val.as ?_
            refine WL.nil ?_
            refine W.ret ?_
            exact fin2 (v := .int .i64 z) (x := .bool false) rfl (show Value.int .i64 _ = _ by rw [hz]) rfl (hfin h (iff_of_false (by simp) (fun e => by have := hres.2 e; omega)) (by simp))
          · refine WL.p h (Val.pick rfl) ?_
            refine WL.p h (Val.not rfl) ?_
            refine WL.p h (Val.pick rfl) ?_
            refine WL.p h Val.as ?_
            refine WL.p h Val.as ?_
            refine WL.nil ?_
            refine W.ret ?_
            exact fin2 (v := .int .i64 z) (x := .bool true) rfl (show Value.int .i64 _ = _ by rw [hz]) rfl (hfin h (iff_of_true rfl (hres.1 (by omega))) (fun _ => hzz (hres.1 (by omega))))
        · refine WL.p h Val.mv ?_
          refine WL.no rfl (?_)
          refine WL.no rfl (?_)
          refine WL.p h (Val.pick rfl) ?_
          refine WL.p h (Val.not rfl) ?_
          refine WL.p h (Val.pick rfl) ?_
          refine WL.p h Val.as ?_
          refine WL.p h Val.as ?_
          refine WL.nil ?_
          refine W.ret ?_
          exact fin2 (v := .int .i64 z) (x := .bool true) rfl (show Value.int .i64 _ = _ by rw [hz]) rfl (hfin h (iff_of_true rfl (hres.1 (by omega))) (fun _ => hzz (hres.1 (by omega))))
    · refine WL.p h Val.mv ?_
      refine WL.no rfl (?_)
      refine WL.no rfl (?_)
      refine WL.p h (Val.pick rfl) ?_
      refine WL.p h (Val.not rfl) ?_
      refine WL.p h (Val.pick rfl) ?_
      refine WL.p h Val.mv ?_
      refine WL.p h Val.mv ?_
      refine WL.p h (Val.eq (a := y) (b := -1) h1 rfl) ?_
      refine WL.dec (fun d17 => ?_) (fun d17 => ?_)
      · refine WL.p h Val.mv ?_
        refine WL.p h Val.mv ?_
        refine WL.p h (Val.eq (a := x) (b := -9223372036854775808) h0 rfl) ?_
        refine WL.dec (fun d20 => ?_) (fun d20 => ?_)
        · refine WL.p h (Val.pick rfl) ?_
          refine WL.p h (Val.not rfl) ?_
          refine WL.p h (Val.pick rfl) ?_
          refine WL.p h Val.as ?_
          refine WL.p h Val.as ?_
          refine WL.nil ?_
          refine W.ret ?_
          exact fin2 (v := .int .i64 z) (x := .bool false) rfl (show Value.int .i64 _ = _ by rw [hz]) rfl (hfin h (iff_of_false (by simp) (fun e => by have := hres.2 e; omega)) (by simp))
        · refine WL.p h (Val.pick rfl) ?_
          refine WL.p h (Val.not rfl) ?_
          refine WL.p h (Val.pick rfl) ?_
          refine WL.p h Val.as ?_
          refine WL.p h Val.as ?_
          refine WL.nil ?_
          refine W.ret ?_
          exact fin2 (v := .int .i64 z) (x := .bool true) rfl (show Value.int .i64 _ = _ by rw [hz]) rfl (hfin h (iff_of_true rfl (hres.1 (by omega))) (fun _ => hzz (hres.1 (by omega))))
      · refine WL.p h Val.mv ?_
        refine WL.no rfl (?_)
        refine WL.no rfl (?_)
        refine WL.p h (Val.pick rfl) ?_
        refine WL.p h (Val.not rfl) ?_
        refine WL.p h (Val.pick rfl) ?_
        refine WL.p h Val.as ?_
        refine WL.p h Val.as ?_
        refine WL.nil ?_
        refine W.ret ?_
        exact fin2 (v := .int .i64 z) (x := .bool true) rfl (show Value.int .i64 _ = _ by rw [hz]) rfl (hfin h (iff_of_true rfl (hres.1 (by omega))) (fun _ => hzz (hres.1 (by omega))))
  · refine WL.p h Val.mv ?_
    refine WL.no rfl (?_)
    refine WL.no rfl (?_)
    refine WL.no rfl (?_)
    refine WL.no rfl (?_)
    refine WL.no rfl (?_)
    refine WL.no rfl (?_)
    refine WL.no rfl (?_)
    refine WL.p h (Val.pick rfl) ?_
    refine WL.p h Val.mv ?_
    refine WL.no rfl (?_)
    refine WL.no rfl (?_)
    refine WL.no rfl (?_)
    refine WL.no rfl (?_)
    refine WL.no rfl (?_)
    refine WL.no rfl (?_)
    refine WL.no rfl (?_)
    refine WL.p h (Val.pick rfl) ?_
    refine WL.p h Val.as ?_
    refine WL.p h Val.as ?_
    refine WL.nil ?_
    refine W.ret ?_
    exact fin2 (v := .int .i64 z) (x := .bool false) rfl (show Value.int .i64 _ = _ by rw [hz]) rfl (hfin h (iff_of_false (by simp) (fun e => by have := hres.2 e; omega)) (by simp))
def PNR (F : Fz) (w0 : World) (r : Nr) : Ending → World → Prop := PSW F w0 r.at
theorem wrapN (x : Int) (hx : inR x) : rng (-x) = (if x = -9223372036854775808 then .no wRange else .ok (IntKind.i64.wrap (-x))) := by
  have hx' := hx
  unfold inR at hx'
  unfold rng
  by_cases h : x = -9223372036854775808
  · rw [if_pos h, if_neg (by unfold inR; omega)]; rfl
  · rw [if_neg h, if_pos (by unfold inR; omega), wrap_in (by omega)]
set_option maxHeartbeats 2000000 in
theorem l6Number_calls (F : Fz) (w0 : World) (hF : Sub F (hv w0)) (op x y : Int) (hx : inR x) (hy : inR y) (hop : op ≠ 10) : Calls Try.prog 60 #[.int .i64 op, .int .i64 x, .int .i64 y] w0 (PSW F w0 (numR op x y).at) := by
  refine calls 99 Try.func60 rfl rfl rfl ?_
  have h := Hp.start hF
  have hxb := hx
  have hyb := hy
  unfold inR at hxb hyb
  refine W.seq (W.region rfl ?_)
  refine WL.alloc h T42 (fun b6 w h => ?_)
  refine WL.p h Val.as ?_
  refine WL.nil ?_
  refine W.seq (W.seq (W.region rfl ?_))
  refine WL.p h Val.mv ?_
  refine WL.nil ?_
  refine W.block ?_
  refine W.seq (W.region rfl ?_)
  refine WL.p h (Val.eq (a := op) (b := 11) rfl rfl) ?_
  refine WL.dec (fun o1 => ?_) (fun o1 => ?_)
  · refine WL.p h Val.as ?_
    refine WL.nil ?_
    refine W.condT rfl ?_
    have hN : numR op x y = rng (x - y) := by rw [o1]; simp [numR]
    refine W.seq (W.seq (W.region rfl ?_))
    refine WL.p h Val.mv ?_
    refine WL.p h (Val.lt (a := y) (b := 0) rfl rfl) ?_
    refine WL.dec (fun d1 => ?_) (fun d1 => ?_)
    · refine WL.p h Val.mv ?_
      refine WL.p h Val.mv ?_
      refine WL.p h Val.mv ?_
      refine WL.p h (Val.addi (a := 9223372036854775807) (b := y) (c := 9223372036854775807 + y) rfl rfl (by omega)) ?_
      refine WL.p h (Val.gt (a := x) rfl rfl) ?_
      refine WL.dec (fun d6 => ?_) (fun d6 => ?_)
      · refine WL.p h (Val.pick rfl) ?_
        refine WL.p h Val.mv ?_
        refine WL.no rfl (?_)
        refine WL.no rfl (?_)
        refine WL.no rfl (?_)
        refine WL.no rfl (?_)
        refine WL.no rfl (?_)
        refine WL.no rfl (?_)
        refine WL.no rfl (?_)
        refine WL.no rfl (?_)
        refine WL.p h (Val.pick rfl) ?_
        refine WL.nil ?_
        refine W.condT rfl ?_
        refine W.seq (W.region rfl ?_)
        refine WL.call C49 (args := [.string wRange]) rfl ((l6No_calls F _ h.sub wRange).mono ?_)
        rintro e w' ⟨rfl, hE⟩
        have h := h.call hE
        refine ⟨_, rfl, ?_⟩
        refine WL.p h (Val.ext (v := .agg #[.slice none 0 0]) rfl rfl) ?_
        refine WL.p h (Val.ext (v := .string wRange) rfl rfl) ?_
        refine WL.stS 0 h rfl T42 rfl (vs := [.slice none 0 0]) rfl (one1 rfl) rfl rfl (fun w h => ?_)
        refine WL.p h Val.as ?_
        refine WL.nil ?_
        refine W.ret ?_
        exact finBox2 h 0 rfl rfl rfl A42 T42 rfl rfl (PSW.no h.toExt (by rw [hN, rng, if_neg (by unfold inR; omega)]; rfl))
      · refine WL.p h (Val.pick rfl) ?_
        refine WL.p h Val.mv ?_
        refine WL.p h Val.mv ?_
        refine WL.p h (Val.gt (a := y) (b := 0) rfl rfl) ?_
        refine WL.dec (fun d10 => ?_) (fun d10 => ?_)
        · refine WL.p h Val.mv ?_
          refine WL.p h Val.mv ?_
          refine WL.p h Val.mv ?_
          refine WL.p h (Val.addi (a := -9223372036854775808) (b := y) (c := -9223372036854775808 + y) rfl rfl (by omega)) ?_
          refine WL.p h (Val.lt (a := x) rfl rfl) ?_
          refine WL.dec (fun d15 => ?_) (fun d15 => ?_)
          · refine WL.p h (Val.pick rfl) ?_
            refine WL.p h (Val.pick rfl) ?_
            refine WL.nil ?_
            refine W.condT rfl ?_
            refine W.seq (W.region rfl ?_)
            refine WL.call C49 (args := [.string wRange]) rfl ((l6No_calls F _ h.sub wRange).mono ?_)
            rintro e w' ⟨rfl, hE⟩
            have h := h.call hE
            refine ⟨_, rfl, ?_⟩
            refine WL.p h (Val.ext (v := .agg #[.slice none 0 0]) rfl rfl) ?_
            refine WL.p h (Val.ext (v := .string wRange) rfl rfl) ?_
            refine WL.stS 0 h rfl T42 rfl (vs := [.slice none 0 0]) rfl (one1 rfl) rfl rfl (fun w h => ?_)
            refine WL.p h Val.as ?_
            refine WL.nil ?_
            refine W.ret ?_
            exact finBox2 h 0 rfl rfl rfl A42 T42 rfl rfl (PSW.no h.toExt (by rw [hN, rng, if_neg (by unfold inR; omega)]; rfl))
          · refine WL.p h (Val.pick rfl) ?_
            refine WL.p h (Val.pick rfl) ?_
            refine WL.nil ?_
            refine W.condF rfl ?_
            refine W.skip ?_
            refine W.seq (W.region rfl ?_)
            refine WL.p h Val.mv ?_
            refine WL.p h Val.mv ?_
            refine WL.p h (Val.subi (a := x) (b := y) (c := x - y) rfl rfl (by omega)) ?_
            refine WL.call C50 (args := [.int .i64 (x - y)]) rfl ((l5Int_calls F _ h.sub (x - y)).mono ?_)
            rintro e w' ⟨F1, s, rfl, hE, hrow⟩
            have h := h.call hE
            refine ⟨_, rfl, ?_⟩
            refine WL.stS 0 h rfl T42 rfl (vs := [s]) rfl (one1 hrow.one) rfl rfl (fun w h => ?_)
            refine WL.p h Val.as ?_
            refine WL.nil ?_
            refine W.ret ?_
            have hAt : (numR op x y).at = ([⟨3, (x - y), ⟨#[]⟩, 0⟩], ⟨#[]⟩) := by rw [hN, rng, if_pos (by unfold inR; omega)]; rfl
            rw [hAt]
            exact finBox2 h 0 rfl rfl rfl A42 T42 rfl rfl ⟨F1, s, rfl, h.toExt, hrow⟩
        · refine WL.p h Val.mv ?_
          refine WL.no rfl (?_)
          refine WL.no rfl (?_)
          refine WL.no rfl (?_)
          refine WL.no rfl (?_)
          refine WL.p h (Val.pick rfl) ?_
          refine WL.p h (Val.pick rfl) ?_
          refine WL.nil ?_
          refine W.condF rfl ?_
          refine W.skip ?_
          refine W.seq (W.region rfl ?_)
          refine WL.p h Val.mv ?_
          refine WL.p h Val.mv ?_
          refine WL.p h (Val.subi (a := x) (b := y) (c := x - y) rfl rfl (by omega)) ?_
          refine WL.call C50 (args := [.int .i64 (x - y)]) rfl ((l5Int_calls F _ h.sub (x - y)).mono ?_)
          rintro e w' ⟨F1, s, rfl, hE, hrow⟩
          have h := h.call hE
          refine ⟨_, rfl, ?_⟩
          refine WL.stS 0 h rfl T42 rfl (vs := [s]) rfl (one1 hrow.one) rfl rfl (fun w h => ?_)
          refine WL.p h Val.as ?_
          refine WL.nil ?_
          refine W.ret ?_
          have hAt : (numR op x y).at = ([⟨3, (x - y), ⟨#[]⟩, 0⟩], ⟨#[]⟩) := by rw [hN, rng, if_pos (by unfold inR; omega)]; rfl
          rw [hAt]
          exact finBox2 h 0 rfl rfl rfl A42 T42 rfl rfl ⟨F1, s, rfl, h.toExt, hrow⟩
    · refine WL.p h Val.mv ?_
      refine WL.no rfl (?_)
      refine WL.no rfl (?_)
      refine WL.no rfl (?_)
      refine WL.no rfl (?_)
      refine WL.p h (Val.pick rfl) ?_
      refine WL.p h Val.mv ?_
      refine WL.p h Val.mv ?_
      refine WL.p h (Val.gt (a := y) (b := 0) rfl rfl) ?_
      refine WL.dec (fun d10 => ?_) (fun d10 => ?_)
      · refine WL.p h Val.mv ?_
        refine WL.p h Val.mv ?_
        refine WL.p h Val.mv ?_
        refine WL.p h (Val.addi (a := -9223372036854775808) (b := y) (c := -9223372036854775808 + y) rfl rfl (by omega)) ?_
        refine WL.p h (Val.lt (a := x) rfl rfl) ?_
        refine WL.dec (fun d15 => ?_) (fun d15 => ?_)
        · refine WL.p h (Val.pick rfl) ?_
          refine WL.p h (Val.pick rfl) ?_
          refine WL.nil ?_
          refine W.condT rfl ?_
          refine W.seq (W.region rfl ?_)
          refine WL.call C49 (args := [.string wRange]) rfl ((l6No_calls F _ h.sub wRange).mono ?_)
          rintro e w' ⟨rfl, hE⟩
          have h := h.call hE
          refine ⟨_, rfl, ?_⟩
          refine WL.p h (Val.ext (v := .agg #[.slice none 0 0]) rfl rfl) ?_
          refine WL.p h (Val.ext (v := .string wRange) rfl rfl) ?_
          refine WL.stS 0 h rfl T42 rfl (vs := [.slice none 0 0]) rfl (one1 rfl) rfl rfl (fun w h => ?_)
          refine WL.p h Val.as ?_
          refine WL.nil ?_
          refine W.ret ?_
          exact finBox2 h 0 rfl rfl rfl A42 T42 rfl rfl (PSW.no h.toExt (by rw [hN, rng, if_neg (by unfold inR; omega)]; rfl))
        · refine WL.p h (Val.pick rfl) ?_
          refine WL.p h (Val.pick rfl) ?_
          refine WL.nil ?_
          refine W.condF rfl ?_
          refine W.skip ?_
          refine W.seq (W.region rfl ?_)
          refine WL.p h Val.mv ?_
          refine WL.p h Val.mv ?_
          refine WL.p h (Val.subi (a := x) (b := y) (c := x - y) rfl rfl (by omega)) ?_
          refine WL.call C50 (args := [.int .i64 (x - y)]) rfl ((l5Int_calls F _ h.sub (x - y)).mono ?_)
          rintro e w' ⟨F1, s, rfl, hE, hrow⟩
          have h := h.call hE
          refine ⟨_, rfl, ?_⟩
          refine WL.stS 0 h rfl T42 rfl (vs := [s]) rfl (one1 hrow.one) rfl rfl (fun w h => ?_)
          refine WL.p h Val.as ?_
          refine WL.nil ?_
          refine W.ret ?_
          have hAt : (numR op x y).at = ([⟨3, (x - y), ⟨#[]⟩, 0⟩], ⟨#[]⟩) := by rw [hN, rng, if_pos (by unfold inR; omega)]; rfl
          rw [hAt]
          exact finBox2 h 0 rfl rfl rfl A42 T42 rfl rfl ⟨F1, s, rfl, h.toExt, hrow⟩
      · refine WL.p h Val.mv ?_
        refine WL.no rfl (?_)
        refine WL.no rfl (?_)
        refine WL.no rfl (?_)
        refine WL.no rfl (?_)
        refine WL.p h (Val.pick rfl) ?_
        refine WL.p h (Val.pick rfl) ?_
        refine WL.nil ?_
        refine W.condF rfl ?_
        refine W.skip ?_
        refine W.seq (W.region rfl ?_)
        refine WL.p h Val.mv ?_
        refine WL.p h Val.mv ?_
        refine WL.p h (Val.subi (a := x) (b := y) (c := x - y) rfl rfl (by omega)) ?_
        refine WL.call C50 (args := [.int .i64 (x - y)]) rfl ((l5Int_calls F _ h.sub (x - y)).mono ?_)
        rintro e w' ⟨F1, s, rfl, hE, hrow⟩
        have h := h.call hE
        refine ⟨_, rfl, ?_⟩
        refine WL.stS 0 h rfl T42 rfl (vs := [s]) rfl (one1 hrow.one) rfl rfl (fun w h => ?_)
        refine WL.p h Val.as ?_
        refine WL.nil ?_
        refine W.ret ?_
        have hAt : (numR op x y).at = ([⟨3, (x - y), ⟨#[]⟩, 0⟩], ⟨#[]⟩) := by rw [hN, rng, if_pos (by unfold inR; omega)]; rfl
        rw [hAt]
        exact finBox2 h 0 rfl rfl rfl A42 T42 rfl rfl ⟨F1, s, rfl, h.toExt, hrow⟩
  refine WL.p h Val.as ?_
  refine WL.nil ?_
  refine W.condF rfl ?_
  refine W.seq (W.region rfl ?_)
  refine WL.p h (Val.eq (a := op) (b := 12) rfl rfl) ?_
  refine WL.dec (fun o2 => ?_) (fun o2 => ?_)
  · refine WL.p h Val.as ?_
    refine WL.nil ?_
    refine W.condT rfl ?_
    have hN : numR op x y = rng (x * y) := by rw [o2]; simp [numR]
    refine W.seq (W.region rfl ?_)
    refine WL.p h Val.mv ?_
    refine WL.p h Val.mv ?_
    refine WL.call C89 (args := [.int .i64 x, .int .i64 y]) rfl ((l6Times_calls F _ h.sub x y hx hy).mono ?_)
    rintro e w' ⟨r, ok, rfl, hE, hok, hr⟩
    have h := h.call hE
    refine ⟨_, rfl, ?_⟩
    refine WL.p h Val.mv ?_
    refine WL.p h (Val.ext (v := .int .i64 r) rfl rfl) ?_
    refine WL.p h (Val.ext (v := .bool ok) rfl rfl) ?_
    refine WL.p h Val.as ?_
    refine WL.p h Val.as ?_
    refine WL.nil ?_
    refine W.seq (W.seq (W.region rfl ?_))
    refine WL.p h Val.mv ?_
    refine WL.p h (Val.not rfl) ?_
    refine WL.nil ?_
    cases ok with
    | false =>
      have hn : ¬ inR (x * y) := fun e => by cases hok.2 e
      refine W.condT rfl ?_
      refine W.seq (W.region rfl ?_)
      refine WL.call C49 (args := [.string wRange]) rfl ((l6No_calls F _ h.sub wRange).mono ?_)
      rintro e w' ⟨rfl, hE⟩
      have h := h.call hE
      refine ⟨_, rfl, ?_⟩
      refine WL.p h (Val.ext (v := .agg #[.slice none 0 0]) rfl rfl) ?_
      refine WL.p h (Val.ext (v := .string wRange) rfl rfl) ?_
      refine WL.stS 0 h rfl T42 rfl (vs := [.slice none 0 0]) rfl (one1 rfl) rfl rfl (fun w h => ?_)
      refine WL.p h Val.as ?_
      refine WL.nil ?_
      refine W.ret ?_
      exact finBox2 h 0 rfl rfl rfl A42 T42 rfl rfl (PSW.no h.toExt (by rw [hN, rng, if_neg hn]; rfl))
    | true =>
      refine W.condF rfl ?_
      refine W.skip ?_
      have hz := hr rfl
      subst hz
      refine W.seq (W.region rfl ?_)
      refine WL.p h Val.mv ?_
      refine WL.call C50 (args := [.int .i64 (x * y)]) rfl ((l5Int_calls F _ h.sub (x * y)).mono ?_)
      rintro e w' ⟨F1, s, rfl, hE, hrow⟩
      have h := h.call hE
      refine ⟨_, rfl, ?_⟩
      refine WL.stS 0 h rfl T42 rfl (vs := [s]) rfl (one1 hrow.one) rfl rfl (fun w h => ?_)
      refine WL.p h Val.as ?_
      refine WL.nil ?_
      refine W.ret ?_
      have hAt : (numR op x y).at = ([⟨3, (x * y), ⟨#[]⟩, 0⟩], ⟨#[]⟩) := by rw [hN, rng, if_pos (hok.1 rfl)]; rfl
      rw [hAt]
      exact finBox2 h 0 rfl rfl rfl A42 T42 rfl rfl ⟨F1, s, rfl, h.toExt, hrow⟩
  refine WL.p h Val.as ?_
  refine WL.nil ?_
  refine W.condF rfl ?_
  refine W.skip ?_
  have hN : numR op x y = if y = 0 then .no wDivide else if y = -1 then (if op = 14 then .ok 0 else rng (-x)) else if op = 13 then .ok (qD x y) else .ok (rD x y) := by simp [numR, hop, o1, o2]
  refine W.seq (W.seq (W.region rfl ?_))
  refine WL.p h Val.mv ?_
  refine WL.p h (Val.eq (a := y) (b := 0) rfl rfl) ?_
  refine WL.dec (fun y0 => ?_) (fun y0 => ?_)
  · refine WL.nil ?_
    refine W.condT rfl ?_
    refine W.seq (W.region rfl ?_)
    refine WL.call C49 (args := [.string wDivide]) rfl ((l6No_calls F _ h.sub wDivide).mono ?_)
    rintro e w' ⟨rfl, hE⟩
    have h := h.call hE
    refine ⟨_, rfl, ?_⟩
    refine WL.p h (Val.ext (v := .agg #[.slice none 0 0]) rfl rfl) ?_
    refine WL.p h (Val.ext (v := .string wDivide) rfl rfl) ?_
    refine WL.stS 0 h rfl T42 rfl (vs := [.slice none 0 0]) rfl (one1 rfl) rfl rfl (fun w h => ?_)
    refine WL.p h Val.as ?_
    refine WL.nil ?_
    refine W.ret ?_
    exact finBox2 h 0 rfl rfl rfl A42 T42 rfl rfl (PSW.no h.toExt (by rw [hN, if_pos y0]; rfl))
  refine WL.nil ?_
  refine W.condF rfl ?_
  refine W.skip ?_
  rw [if_neg y0] at hN
  refine W.seq (W.seq (W.region rfl ?_))
  refine WL.p h Val.mv ?_
  refine WL.p h (Val.eq (a := y) (b := -1) rfl rfl) ?_
  refine WL.dec (fun y1 => ?_) (fun y1 => ?_)
  · rw [if_pos y1] at hN
    refine WL.nil ?_
    refine W.condT rfl ?_
    refine W.seq (W.seq (W.region rfl ?_))
    refine WL.p h Val.mv ?_
    refine WL.p h (Val.eq (a := op) (b := 14) rfl rfl) ?_
    refine WL.dec (fun o3 => ?_) (fun o3 => ?_)
    · refine WL.nil ?_
      refine W.condT rfl ?_
      refine W.seq (W.region rfl ?_)
      refine WL.call C50 (args := [.int .i64 0]) rfl ((l5Int_calls F _ h.sub 0).mono ?_)
      rintro e w' ⟨F1, s, rfl, hE, hrow⟩
      have h := h.call hE
      refine ⟨_, rfl, ?_⟩
      refine WL.stS 0 h rfl T42 rfl (vs := [s]) rfl (one1 hrow.one) rfl rfl (fun w h => ?_)
      refine WL.p h Val.as ?_
      refine WL.nil ?_
      refine W.ret ?_
      have hAt : (numR op x y).at = ([⟨3, 0, ⟨#[]⟩, 0⟩], ⟨#[]⟩) := by rw [hN, if_pos o3]; rfl
      rw [hAt]
      exact finBox2 h 0 rfl rfl rfl A42 T42 rfl rfl ⟨F1, s, rfl, h.toExt, hrow⟩
    refine WL.nil ?_
    refine W.condF rfl ?_
    refine W.skip ?_
    rw [if_neg o3, wrapN x hx] at hN
    refine W.seq (W.seq (W.region rfl ?_))
    refine WL.p h Val.mv ?_
    refine WL.p h (Val.eq (a := x) (b := -9223372036854775808) rfl rfl) ?_
    refine WL.dec (fun x1 => ?_) (fun x1 => ?_)
    · refine WL.nil ?_
      refine W.condT rfl ?_
      refine W.seq (W.region rfl ?_)
      refine WL.call C49 (args := [.string wRange]) rfl ((l6No_calls F _ h.sub wRange).mono ?_)
      rintro e w' ⟨rfl, hE⟩
      have h := h.call hE
      refine ⟨_, rfl, ?_⟩
      refine WL.p h (Val.ext (v := .agg #[.slice none 0 0]) rfl rfl) ?_
      refine WL.p h (Val.ext (v := .string wRange) rfl rfl) ?_
      refine WL.stS 0 h rfl T42 rfl (vs := [.slice none 0 0]) rfl (one1 rfl) rfl rfl (fun w h => ?_)
      refine WL.p h Val.as ?_
      refine WL.nil ?_
      refine W.ret ?_
      exact finBox2 h 0 rfl rfl rfl A42 T42 rfl rfl (PSW.no h.toExt (by rw [hN, if_pos x1]; rfl))
    refine WL.nil ?_
    refine W.condF rfl ?_
    refine W.skip ?_
    refine W.seq (W.region rfl ?_)
    refine WL.p h Val.mv ?_
    refine WL.p h (Val.neg (b := x) rfl) ?_
    refine WL.call C50 (args := [.int .i64 (IntKind.i64.wrap (-x))]) rfl ((l5Int_calls F _ h.sub (IntKind.i64.wrap (-x))).mono ?_)
    rintro e w' ⟨F1, s, rfl, hE, hrow⟩
    have h := h.call hE
    refine ⟨_, rfl, ?_⟩
    refine WL.stS 0 h rfl T42 rfl (vs := [s]) rfl (one1 hrow.one) rfl rfl (fun w h => ?_)
    refine WL.p h Val.as ?_
    refine WL.nil ?_
    refine W.ret ?_
    have hAt : (numR op x y).at = ([⟨3, (IntKind.i64.wrap (-x)), ⟨#[]⟩, 0⟩], ⟨#[]⟩) := by rw [hN, if_neg x1]; rfl
    rw [hAt]
    exact finBox2 h 0 rfl rfl rfl A42 T42 rfl rfl ⟨F1, s, rfl, h.toExt, hrow⟩
  rw [if_neg y1] at hN
  have hqi := quot_in hx hy y0 y1
  unfold inR at hqi
  refine WL.nil ?_
  refine W.condF rfl ?_
  refine W.skip ?_
  refine W.seq (W.region rfl ?_)
  refine WL.p h Val.mv ?_
  refine WL.p h Val.mv ?_
  refine WL.p h (Val.quoi (a := x) (b := y) (c := x.tdiv y) rfl rfl y0 ⟨rfl, hqi.1⟩) ?_
  refine WL.p h Val.as ?_
  refine WL.nil ?_
  refine W.seq (W.region rfl ?_)
  refine WL.p h Val.mv ?_
  refine WL.p h Val.mv ?_
  refine WL.p h (Val.rem (a := x) (b := y) rfl rfl y0) ?_
  refine WL.p h Val.as ?_
  refine WL.nil ?_
  refine W.cut (fun R w => Hp w0 F F [.box b6 [.slice none 0 0] 42] w ∧ R 0 = .int .i64 op ∧ R 6 = pt b6 ∧ R 10 = .int .i64 (qD x y) ∧ R 11 = .int .i64 (rD x y)) ?_ ?_
  · refine W.seq (W.region rfl ?_)
    refine WL.p h Val.mv ?_
    refine WL.p h (Val.ne (a := x.tmod y) (b := 0) rfl rfl) ?_
    refine WL.dec (fun m0 => ?_) (fun m0 => ?_)
    · refine WL.p h Val.mv ?_
      refine WL.p h Val.mv ?_
      refine WL.p h (Val.lt (a := x.tmod y) (b := 0) rfl rfl) ?_
      refine WL.p h Val.mv ?_
      refine WL.p h (Val.lt (a := y) (b := 0) rfl rfl) ?_
      refine WL.p h (Val.boolNe Try.underlying4 rfl rfl) ?_
      have hb : (decide (x.tmod y < 0) != decide (y < 0)) = true ↔ ((x.tmod y < 0) ≠ (y < 0)) := by
        by_cases e1 : x.tmod y < 0 <;> by_cases e2 : y < 0 <;> simp [e1, e2]
      refine WL.decB (fun m1 => ?_) (fun m1 => ?_)
      · have hc := hb.1 m1
        have hq : qD x y = x.tdiv y - 1 := by rw [qD, if_pos ⟨m0, hc⟩]
        have hr : rD x y = x.tmod y + y := by rw [rD, if_pos ⟨m0, hc⟩]
        refine WL.p h (Val.pick rfl) ?_
        refine WL.nil ?_
        refine W.condT rfl ?_
        refine W.seq (W.region rfl ?_)
        refine WL.p h Val.mv ?_
        refine WL.p h (Val.subi (a := x.tdiv y) (b := 1) (c := qD x y) rfl rfl ⟨hq, hqi.2.2.1 m0⟩) ?_
        refine WL.p h Val.as ?_
        refine WL.nil ?_
        refine W.region rfl ?_
        refine WL.p h Val.mv ?_
        refine WL.p h Val.mv ?_
        refine WL.p h (Val.addi (a := x.tmod y) (b := y) (c := rD x y) rfl rfl ⟨hr, hqi.2.2.2 hc⟩) ?_
        refine WL.p h Val.as ?_
        refine WL.nil ?_
        exact ⟨h, rfl, rfl, rfl, rfl⟩
      · have hc : ¬ ((x.tmod y < 0) ≠ (y < 0)) := fun e => by rw [hb.2 e] at m1; cases m1
        have hq : qD x y = x.tdiv y := by rw [qD, if_neg (fun e => hc e.2)]
        have hr : rD x y = x.tmod y := by rw [rD, if_neg (fun e => hc e.2)]
        refine WL.p h (Val.pick rfl) ?_
        refine WL.nil ?_
        refine W.condF rfl ?_
        refine W.skip ?_
        rw [hq, hr]
        exact ⟨h, rfl, rfl, rfl, rfl⟩
    · have hq : qD x y = x.tdiv y := by rw [qD, if_neg (fun e => m0 e.1)]
      have hr : rD x y = x.tmod y := by rw [rD, if_neg (fun e => m0 e.1)]
      refine WL.p h Val.mv ?_
      refine WL.no rfl (WL.no rfl (WL.no rfl (WL.no rfl (WL.no rfl (?_)))))
      refine WL.p h (Val.pick rfl) ?_
      refine WL.nil ?_
      refine W.condF rfl ?_
      refine W.skip ?_
      rw [hq, hr]
      exact ⟨h, rfl, rfl, rfl, rfl⟩
  clear h
  rintro R w ⟨h, h0, h6, h10, h11⟩
  refine W.seq (W.seq (W.region rfl ?_))
  refine WL.p h Val.mv ?_
  refine WL.p h (Val.eq (a := op) (b := 13) h0 rfl) ?_
  refine WL.dec (fun o4 => ?_) (fun o4 => ?_)
  · refine WL.nil ?_
    refine W.condT rfl ?_
    refine W.seq (W.region rfl ?_)
    refine WL.p h Val.mv ?_
    refine WL.call C50 (args := [.int .i64 (qD x y)]) (congrArg (fun x => [x]) h10) ((l5Int_calls F _ h.sub (qD x y)).mono ?_)
    rintro e w' ⟨F1, s, rfl, hE, hrow⟩
    have h := h.call hE
    refine ⟨_, rfl, ?_⟩
    refine WL.stS 0 h rfl T42 h6 (vs := [s]) rfl (one1 hrow.one) rfl rfl (fun w h => ?_)
    refine WL.p h Val.as ?_
    refine WL.nil ?_
    refine W.ret ?_
    have hAt : (numR op x y).at = ([⟨3, (qD x y), ⟨#[]⟩, 0⟩], ⟨#[]⟩) := by rw [hN, if_pos o4]; rfl
    rw [hAt]
    exact finBox2 h 0 rfl h6 rfl A42 T42 rfl rfl ⟨F1, s, rfl, h.toExt, hrow⟩
  refine WL.nil ?_
  refine W.condF rfl ?_
  refine W.skip ?_
  refine W.seq (W.region rfl ?_)
  refine WL.p h Val.mv ?_
  refine WL.call C50 (args := [.int .i64 (rD x y)]) (congrArg (fun x => [x]) h11) ((l5Int_calls F _ h.sub (rD x y)).mono ?_)
  rintro e w' ⟨F1, s, rfl, hE, hrow⟩
  have h := h.call hE
  refine ⟨_, rfl, ?_⟩
  refine WL.stS 0 h rfl T42 h6 (vs := [s]) rfl (one1 hrow.one) rfl rfl (fun w h => ?_)
  refine WL.p h Val.as ?_
  refine WL.nil ?_
  refine W.ret ?_
  have hAt : (numR op x y).at = ([⟨3, (rD x y), ⟨#[]⟩, 0⟩], ⟨#[]⟩) := by rw [hN, if_neg o4]; rfl
  rw [hAt]
  exact finBox2 h 0 rfl h6 rfl A42 T42 rfl rfl ⟨F1, s, rfl, h.toExt, hrow⟩

theorem add_calls' (F : Fz) (w0 : World) (hF : Sub F (hv w0)) (x y : Int) (hx : inR x) (hy : inR y) : Calls Try.prog 94 #[.int .i64 x, .int .i64 y] w0 (PNum F w0 (x + y)) := by
  refine calls 23 Try.func94 rfl rfl rfl ?_
  have h := Hp.start hF
  unfold inR at hx hy
  obtain ⟨z, hz⟩ : ∃ z, z = IntKind.i64.wrap (x + y) := ⟨_, rfl⟩
  have hz2 : (inR (x + y) → z = x + y) ∧ (¬ inR (x + y) → z = x + y - 18446744073709551616 ∧ 0 < x + y ∨ z = x + y + 18446744073709551616 ∧ x + y < 0) := by
    unfold inR
    rw [IntKind.wrap_i64] at hz
    constructor <;> intro h <;> omega
  refine W.seq (W.region rfl ?_)
  refine WL.p h Val.as ?_
  refine WL.p h Val.as ?_
  refine WL.nil ?_
  refine W.seq (W.region rfl ?_)
  refine WL.p h Val.mv ?_
  refine WL.p h Val.mv ?_
  refine WL.p h (Val.add (a := x) (b := y) rfl rfl) ?_
  refine WL.p h Val.as ?_
  refine WL.nil ?_
  refine W.seq (W.region rfl ?_)
  refine WL.p h Val.mv ?_
  refine WL.p h Val.mv ?_
  refine WL.p h (Val.lt (a := x) (b := 0) rfl rfl) ?_
  refine WL.p h Val.mv ?_
  refine WL.p h (Val.lt (a := y) (b := 0) rfl rfl) ?_
  refine WL.p h (Val.boolNe Try.underlying4 rfl rfl) ?_
  refine WL.decB (fun c => ?_) (fun c => ?_)
  · refine WL.p h Val.mv ?_
    refine WL.no rfl (WL.no rfl (WL.no rfl (WL.no rfl (WL.no rfl (?_)))))
    refine WL.p h (Val.pick rfl) ?_
    refine WL.p h Val.as ?_
    refine WL.p h Val.as ?_
    refine WL.nil ?_
    refine W.ret ?_
    have hin : inR (x + y) := by
      unfold inR
      by_cases e1 : x < 0 <;> by_cases e2 : y < 0 <;> simp [e1, e2] at c <;> omega
    exact fin2 (v := .int .i64 z) (x := .bool true) rfl (show Value.int .i64 _ = _ by rw [hz]) rfl ⟨_, _, rfl, h.toExt, iff_of_true rfl hin, fun _ => hz2.1 hin⟩
  · refine WL.p h Val.mv ?_
    refine WL.p h Val.mv ?_
    refine WL.p h (Val.lt (a := z) (b := 0) (show Value.int .i64 _ = _ by rw [hz]) rfl) ?_
    refine WL.p h Val.mv ?_
    refine WL.p h (Val.lt (a := x) (b := 0) rfl rfl) ?_
    refine WL.p h (Val.boolEq Try.underlying4 rfl rfl) ?_
    refine WL.p h (Val.pick rfl) ?_
    refine WL.p h Val.as ?_
    refine WL.p h Val.as ?_
    refine WL.nil ?_
    refine W.ret ?_
    have hiff : (decide (z < 0) == decide (x < 0)) = true ↔ inR (x + y) := by
      by_cases hin : inR (x + y)
      · have e := hz2.1 hin
        refine iff_of_true ?_ hin
        by_cases e1 : x < 0 <;> by_cases e2 : y < 0 <;> simp [e1, e2] at c
        · simp [e1]; omega
        · simp [e1]; omega
      · have e := hz2.2 hin
        unfold inR at hin
        refine iff_of_false ?_ (by unfold inR; exact hin)
        by_cases e1 : x < 0 <;> by_cases e2 : y < 0 <;> simp [e1, e2] at c
        · simp [e1]; omega
        · simp [e1]; omega
    exact fin2 (v := .int .i64 z) (x := .bool (decide (z < 0) == decide (x < 0))) rfl (show Value.int .i64 _ = _ by rw [hz]) rfl ⟨_, _, rfl, h.toExt, hiff, fun e => hz2.1 (hiff.1 e)⟩

set_option maxHeartbeats 1000000 in
theorem mul_calls (F : Fz) (w0 : World) (hF : Sub F (hv w0)) (a b : Int) (ha : inR a) (hb : inR b) : Calls Try.prog 95 #[.int .i64 a, .int .i64 b] w0 (PNum F w0 (a * b)) := by
  refine calls 46 Try.func95 rfl rfl rfl ?_
  have h := Hp.start hF
  obtain ⟨hX, hY, hneg, hpos⟩ := mul_abs a b ha hb
  unfold inR at ha hb
  obtain ⟨X, hXe⟩ : ∃ X, X = a.natAbs := ⟨_, rfl⟩
  obtain ⟨Y, hYe⟩ : ∃ Y, Y = b.natAbs := ⟨_, rfl⟩
  obtain ⟨B, hB⟩ : ∃ B, B = ((decide (a < 0)) != (decide (b < 0))) := ⟨_, rfl⟩
  rw [← hB, ← hXe, ← hYe] at hneg hpos
  rw [← hXe] at hX
  rw [← hYe] at hY
  have hfin : ∀ {w : World} {r : Int} {ok : Bool}, Hp w0 F F [] w → (ok = true ↔ inR (a * b)) → (ok = true → r = a * b) → PNum F w0 (a * b) (.returned (.tuple #[.int .i64 r, .bool ok])) w := fun h h1 h2 => ⟨_, _, rfl, h.toExt, h1, h2⟩
  refine W.seq (W.region rfl ?_)
  refine WL.p h Val.as ?_
  refine WL.p h Val.as ?_
  refine WL.nil ?_
  refine W.seq (W.region rfl ?_)
  refine WL.p h Val.mv ?_
  refine WL.p h (Val.lt (a := a) (b := 0) rfl rfl) ?_
  refine WL.p h Val.mv ?_
  refine WL.p h (Val.lt (a := b) (b := 0) rfl rfl) ?_
  refine WL.p h (Val.boolNe Try.underlying4 rfl rfl) ?_
  refine WL.p h Val.as ?_
  refine WL.nil ?_
  refine W.seq (W.region rfl ?_)
  refine WL.p h Val.mv ?_
  refine WL.p h (Val.cvI (k' := .u64) (a := a) (by kernel_rfl) (by kernel_rfl) (by kernel_rfl) rfl) ?_
  refine WL.p h Val.mv ?_
  refine WL.p h (Val.cvI (k' := .u64) (a := b) (by kernel_rfl) (by kernel_rfl) (by kernel_rfl) rfl) ?_
  refine WL.p h Val.as ?_
  refine WL.p h Val.as ?_
  refine WL.nil ?_
  refine W.cut (fun R w => Hp w0 F F [] w ∧ R 1 = .int .i64 b ∧ R 6 = .bool B ∧ R 7 = .int .u64 (X : Int) ∧ R 8 = .int .u64 (IntKind.u64.wrap b)) ?_ ?_
  · refine W.seq (W.region rfl ?_)
    refine WL.p h Val.mv ?_
    refine WL.p h (Val.lt (a := a) (b := 0) rfl rfl) ?_
    refine WL.dec (fun c1 => ?_) (fun c1 => ?_)
    · refine WL.nil ?_
      refine W.condT rfl ?_
      refine W.region rfl ?_
      refine WL.p h Val.mv ?_
      refine WL.p h (Val.neg rfl) ?_
      refine WL.p h Val.as ?_
      refine WL.nil ?_
      refine ⟨h, rfl, by show Value.bool _ = _; rw [hB], ?_, rfl⟩
      show Value.int .u64 (IntKind.u64.wrap (-(IntKind.u64.wrap a))) = _
      rw [wrapU, wrapU]; congr 1; omega
    · refine WL.nil ?_
      refine W.condF rfl ?_
      refine W.skip ?_
      refine ⟨h, rfl, by show Value.bool _ = _; rw [hB], ?_, rfl⟩
      show Value.int .u64 (IntKind.u64.wrap a) = _
      rw [wrapU]; congr 1; omega
  clear h
  rintro R w ⟨h, h1, h6, h7, h8⟩
  refine W.cut (fun R w => Hp w0 F F [] w ∧ R 6 = .bool B ∧ R 7 = .int .u64 (X : Int) ∧ R 8 = .int .u64 (Y : Int)) ?_ ?_
  · refine W.seq (W.region rfl ?_)
    refine WL.p h Val.mv ?_
    refine WL.p h (Val.lt (a := b) (b := 0) h1 rfl) ?_
    refine WL.dec (fun c1 => ?_) (fun c1 => ?_)
    · refine WL.nil ?_
      refine W.condT rfl ?_
      refine W.region rfl ?_
      refine WL.p h Val.mv ?_
      refine WL.p h (Val.neg h8) ?_
      refine WL.p h Val.as ?_
      refine WL.nil ?_
      refine ⟨h, h6, h7, ?_⟩
      show Value.int .u64 (IntKind.u64.wrap (-(IntKind.u64.wrap b))) = _
      rw [wrapU, wrapU]; congr 1; omega
    · refine WL.nil ?_
      refine W.condF rfl ?_
      refine W.skip ?_
      exact ⟨h, h6, h7, h8.trans (by rw [wrapU]; congr 1; omega)⟩
  clear h h1 h6 h7 h8
  rintro R w ⟨h, h6, h7, h8⟩
  obtain ⟨Pn, hP⟩ : ∃ Pn, Pn = X * Y := ⟨_, rfl⟩
  rw [← hP] at hneg hpos
  refine W.seq (W.region rfl ?_)
  refine WL.p h Val.mv ?_
  refine WL.p h Val.mv ?_
  refine WL.call C107 (args := [.int .u64 (X : Int), .int .u64 (Y : Int)]) (show [R 7, R 8] = _ by rw [h7, h8]) ((Sh.Try.bits_Mul64 X Y (by omega) (by omega) w).mono ?_)
  rintro e w' ⟨rfl, rfl⟩
  rw [← hP]
  refine ⟨_, rfl, ?_⟩
  refine WL.p h Val.mv ?_
  refine WL.p h (Val.ext (v := .int .u64 ((Pn / 18446744073709551616 : Nat) : Int)) rfl rfl) ?_
  refine WL.p h (Val.ext (v := .int .u64 ((Pn % 18446744073709551616 : Nat) : Int)) rfl rfl) ?_
  refine WL.p h Val.as ?_
  refine WL.p h Val.as ?_
  refine WL.nil ?_
  refine W.seq (W.seq (W.region rfl ?_))
  refine WL.p h Val.mv ?_
  refine WL.p h (Val.ne (a := ((Pn / 18446744073709551616 : Nat) : Int)) (b := 0) rfl rfl) ?_
  refine WL.dec (fun c1 => ?_) (fun c1 => ?_)
  · refine WL.nil ?_
    refine W.condT rfl ?_
    refine W.seq (W.region rfl ?_)
    refine WL.p h Val.as ?_
    refine WL.p h Val.as ?_
    refine WL.nil ?_
    refine W.ret ?_
    have hn : ¬ inR (a * b) := by
      unfold inR
      cases B
      · rw [hpos rfl]; omega
      · rw [hneg rfl]; omega
    exact fin2 (v := .int .i64 0) (x := .bool false) rfl rfl rfl (hfin h (iff_of_false (by simp) hn) (by simp))
  refine WL.nil ?_
  refine W.condF rfl ?_
  refine W.skip ?_
  have hlt : Pn < 18446744073709551616 := by omega
  have hmod : Pn % 18446744073709551616 = Pn := Nat.mod_eq_of_lt hlt
  rw [hmod]
  cases B with
  | true =>
    have hab := hneg rfl
    refine W.seq (W.seq (W.region rfl ?_))
    refine WL.p h Val.mv ?_
    refine WL.nil ?_
    refine W.condT h6 ?_
    refine W.seq (W.region rfl ?_)
    refine WL.p h Val.mv ?_
    refine WL.p h (Val.cvI (k' := .i64) (a := (Pn : Int)) (by kernel_rfl) (by kernel_rfl) (by kernel_rfl) rfl) ?_
    refine WL.p h (Val.neg rfl) ?_
    refine WL.p h Val.mv ?_
    refine WL.p h (Val.le (a := (Pn : Int)) (b := 9223372036854775808) rfl rfl) ?_
    refine WL.p h Val.as ?_
    refine WL.p h Val.as ?_
    refine WL.nil ?_
    refine W.ret ?_
    have hiff : decide ((Pn : Int) ≤ 9223372036854775808) = true ↔ inR (a * b) := by
      rw [hab]; unfold inR; simp
    refine fin2 (v := .int .i64 (IntKind.i64.wrap (-(IntKind.i64.wrap (Pn : Int))))) (x := .bool (decide ((Pn : Int) ≤ 9223372036854775808))) rfl rfl rfl (hfin h hiff ?_)
    intro hle
    have hle : (Pn : Int) ≤ 9223372036854775808 := by simpa using hle
    obtain ⟨k1, e1, g1⟩ := wrapC (Pn : Int)
    obtain ⟨k2, e2, g2⟩ := wrapC (-(IntKind.i64.wrap (Pn : Int)))
    unfold inR at g1 g2
    rw [hab]; omega
  | false =>
    have hab := hpos rfl
    refine W.seq (W.seq (W.region rfl ?_))
    refine WL.p h Val.mv ?_
    refine WL.nil ?_
    refine W.condF h6 ?_
    refine W.skip ?_
    refine W.seq (W.region rfl ?_)
    refine WL.p h Val.mv ?_
    refine WL.p h (Val.cvI (k' := .i64) (a := (Pn : Int)) (by kernel_rfl) (by kernel_rfl) (by kernel_rfl) rfl) ?_
    refine WL.p h Val.mv ?_
    refine WL.p h (Val.lt (a := (Pn : Int)) (b := 9223372036854775808) rfl rfl) ?_
    refine WL.p h Val.as ?_
    refine WL.p h Val.as ?_
    refine WL.nil ?_
    refine W.ret ?_
    have hiff : decide ((Pn : Int) < 9223372036854775808) = true ↔ inR (a * b) := by
      rw [hab]; unfold inR; simp; omega
    refine fin2 (v := .int .i64 (IntKind.i64.wrap (Pn : Int))) (x := .bool (decide ((Pn : Int) < 9223372036854775808))) rfl rfl rfl (hfin h hiff ?_)
    intro hle
    have hle : (Pn : Int) < 9223372036854775808 := by simpa using hle
    rw [hab, wrap_in (by omega)]
end Go.Proofs.Ytmiihhbgfijcmaa.K

