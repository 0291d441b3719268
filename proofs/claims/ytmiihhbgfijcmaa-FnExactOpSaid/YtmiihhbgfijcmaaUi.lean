/- Un: the program's, walked. -/
import Derived.Test.YtmiihhbgfijcmaaUn
namespace Go.Proofs.Ytmiihhbgfijcmaa.K
open Go Go.RowKit
set_option linter.unusedVariables false
set_option linter.unusedSimpArgs false
set_option maxRecDepth 20000
def unV (op : Int) : V → V × ByteArray
  | .bool b => if op = 1 then (.bool !b, ⟨#[]⟩) else (.none, wType)
  | .int n => if op = 2 then (if n = -9223372036854775808 then (.none, wRange) else (.int (negI n), ⟨#[]⟩)) else (.none, wType)
  | _ => (.none, wType)
def PVW (F : Fz) (w0 : World) (p : V × ByteArray) (e : Ending) (w : World) : Prop := ∃ F' r, e = .returned (.tuple #[r, .string p.2]) ∧ Ext F w0 F' w ∧ Rep F' p.1 r
theorem PVW.mk {F w0 w} {F' : Fz} {p : V × ByteArray} {r : Value} {s : ByteArray} (hE : Ext F w0 F' w) (h2 : s = p.2) (h1 : Rep F' p.1 r) : PVW F w0 p (.returned (.tuple #[r, .string s])) w := ⟨F', r, by rw [h2], hE, h1⟩
theorem un_calls (F : Fz) (w0 : World) (hF : Sub F (hv w0)) (op : Int) (v : V) (a : Value) (hr : Rep F v a) : Calls Try.prog 52 #[.int .i64 op, a] w0 (PVW F w0 (unV op v)) := by
  refine calls 27 Try.func52 rfl rfl rfl ?_
  have h := Hp.start hF
  refine W.seq (W.region rfl ?_)
  refine WL.p h Val.as ?_
  refine WL.p h Val.as ?_
  refine WL.nil ?_
  refine W.seq (W.seq (W.region rfl ?_))
  refine WL.p h Val.mv ?_
  refine WL.nil ?_
  refine W.block ?_
  cases v with
  | none =>
    simp only [Rep] at hr
    subst hr
    refine W.seq (W.region rfl ?_)
    refine WL.p h (Val.ta0 N4 T4 rfl) ?_
    refine WL.p h (Val.ext rfl rfl) ?_
    refine WL.p h (Val.ext rfl rfl) ?_
    refine WL.nil ?_
    refine W.condF rfl ?_
    refine W.seq (W.region rfl ?_)
    refine WL.p h (Val.ta0 N2 T2 rfl) ?_
    refine WL.p h (Val.ext rfl rfl) ?_
    refine WL.p h (Val.ext rfl rfl) ?_
    refine WL.nil ?_
    refine W.condF rfl ?_
    refine W.skip ?_
    refine W.seq (W.region rfl ?_)
    refine WL.p h Val.as ?_
    refine WL.p h Val.as ?_
    refine WL.nil ?_
    refine W.ret ?_
    exact fin2 rfl rfl rfl (PVW.mk h.toExt rfl rfl)
  | bool b =>
    simp only [Rep] at hr
    subst hr
    refine W.seq (W.region rfl ?_)
    refine WL.p h (Val.taY N4 rfl) ?_
    refine WL.p h (Val.ext rfl rfl) ?_
    refine WL.p h (Val.ext rfl rfl) ?_
    refine WL.nil ?_
    refine W.condT rfl ?_
    refine W.seq (W.region rfl ?_)
    refine WL.p h Val.as ?_
    refine WL.nil ?_
    refine W.seq (W.region rfl ?_)
    refine WL.p h Val.mv ?_
    refine WL.p h (Val.eq (a := op) (b := 1) rfl rfl) ?_
    refine WL.dec (fun p1 => ?_) (fun p1 => ?_)
    · refine WL.nil ?_
      refine W.condT rfl ?_
      refine W.seq (W.region rfl ?_)
      refine WL.p h Val.mv ?_
      refine WL.p h (Val.not rfl) ?_
      refine WL.p h (Val.mkI (by kernel_rfl) rfl) ?_
      refine WL.p h Val.as ?_
      refine WL.p h Val.as ?_
      refine WL.nil ?_
      refine W.ret ?_
      have hu : unV op (.bool b) = (.bool !b, ⟨#[]⟩) := by rw [unV, if_pos p1]
      rw [hu]
      exact fin2 rfl rfl rfl (PVW.mk h.toExt rfl rfl)
    · refine WL.nil ?_
      refine W.condF rfl ?_
      refine W.skip ?_
      have hu : unV op (.bool b) = (.none, wType) := by rw [unV, if_neg p1]
      rw [hu]
      refine W.seq (W.region rfl ?_)
      refine WL.p h Val.as ?_
      refine WL.p h Val.as ?_
      refine WL.nil ?_
      refine W.ret ?_
      exact fin2 rfl rfl rfl (PVW.mk h.toExt rfl rfl)
  | int n =>
    simp only [Rep] at hr
    subst hr
    refine W.seq (W.region rfl ?_)
    refine WL.p h (Val.taN N4 T4 rfl (by decide)) ?_
    refine WL.p h (Val.ext rfl rfl) ?_
    refine WL.p h (Val.ext rfl rfl) ?_
    refine WL.nil ?_
    refine W.condF rfl ?_
    refine W.seq (W.region rfl ?_)
    refine WL.p h (Val.taY N2 rfl) ?_
    refine WL.p h (Val.ext rfl rfl) ?_
    refine WL.p h (Val.ext rfl rfl) ?_
    refine WL.nil ?_
    refine W.condT rfl ?_
    refine W.seq (W.region rfl ?_)
    refine WL.p h Val.as ?_
    refine WL.nil ?_
    refine W.seq (W.region rfl ?_)
    refine WL.p h Val.mv ?_
    refine WL.p h (Val.eq (a := op) (b := 2) rfl rfl) ?_
    refine WL.dec (fun p1 => ?_) (fun p1 => ?_)
    · refine WL.nil ?_
      refine W.condT rfl ?_
      refine W.seq (W.seq (W.region rfl ?_))
      refine WL.p h Val.mv ?_
      refine WL.p h (Val.eq (a := n) (b := -9223372036854775808) rfl rfl) ?_
      refine WL.dec (fun p2 => ?_) (fun p2 => ?_)
      · refine WL.nil ?_
        refine W.condT rfl ?_
        refine W.seq (W.region rfl ?_)
        refine WL.p h Val.as ?_
        refine WL.p h Val.as ?_
        refine WL.nil ?_
        refine W.ret ?_
        have hu : unV op (.int n) = (.none, wRange) := by rw [unV, if_pos p1, if_pos p2]
        rw [hu]
        exact fin2 rfl rfl rfl (PVW.mk h.toExt rfl rfl)
      · refine WL.nil ?_
        refine W.condF rfl ?_
        refine W.skip ?_
        refine W.seq (W.region rfl ?_)
        refine WL.p h Val.mv ?_
        refine WL.p h (Val.neg rfl) ?_
        refine WL.p h (Val.mkI (by kernel_rfl) rfl) ?_
        refine WL.p h Val.as ?_
        refine WL.p h Val.as ?_
        refine WL.nil ?_
        refine W.ret ?_
        have hu : unV op (.int n) = (.int (negI n), ⟨#[]⟩) := by rw [unV, if_pos p1, if_neg p2]
        rw [hu]
        exact fin2 rfl rfl rfl (PVW.mk h.toExt rfl rfl)
    · refine WL.nil ?_
      refine W.condF rfl ?_
      refine W.skip ?_
      have hu : unV op (.int n) = (.none, wType) := by rw [unV, if_neg p1]
      rw [hu]
      refine W.seq (W.region rfl ?_)
      refine WL.p h Val.as ?_
      refine WL.p h Val.as ?_
      refine WL.nil ?_
      refine W.ret ?_
      exact fin2 rfl rfl rfl (PVW.mk h.toExt rfl rfl)
  | text s =>
    simp only [Rep] at hr
    subst hr
    refine W.seq (W.region rfl ?_)
    refine WL.p h (Val.taN N4 T4 rfl (by decide)) ?_
    refine WL.p h (Val.ext rfl rfl) ?_
    refine WL.p h (Val.ext rfl rfl) ?_
    refine WL.nil ?_
    refine W.condF rfl ?_
    refine W.seq (W.region rfl ?_)
    refine WL.p h (Val.taN N2 T2 rfl (by decide)) ?_
    refine WL.p h (Val.ext rfl rfl) ?_
    refine WL.p h (Val.ext rfl rfl) ?_
    refine WL.nil ?_
    refine W.condF rfl ?_
    refine W.skip ?_
    refine W.seq (W.region rfl ?_)
    refine WL.p h Val.as ?_
    refine WL.p h Val.as ?_
    refine WL.nil ?_
    refine W.ret ?_
    exact fin2 rfl rfl rfl (PVW.mk h.toExt rfl rfl)
  | list l =>
    simp only [Rep] at hr
    obtain ⟨u, us, rfl, _⟩ := hr
    refine W.seq (W.region rfl ?_)
    refine WL.p h (Val.taN N4 T4 rfl (by decide)) ?_
    refine WL.p h (Val.ext rfl rfl) ?_
    refine WL.p h (Val.ext rfl rfl) ?_
    refine WL.nil ?_
    refine W.condF rfl ?_
    refine W.seq (W.region rfl ?_)
    refine WL.p h (Val.taN N2 T2 rfl (by decide)) ?_
    refine WL.p h (Val.ext rfl rfl) ?_
    refine WL.p h (Val.ext rfl rfl) ?_
    refine WL.nil ?_
    refine W.condF rfl ?_
    refine W.skip ?_
    refine W.seq (W.region rfl ?_)
    refine WL.p h Val.as ?_
    refine WL.p h Val.as ?_
    refine WL.nil ?_
    refine W.ret ?_
    exact fin2 rfl rfl rfl (PVW.mk h.toExt rfl rfl)
  | record ns vs =>
    simp only [Rep] at hr
    obtain ⟨u, u', us, rfl, _⟩ := hr
    refine W.seq (W.region rfl ?_)
    refine WL.p h (Val.taN N4 T4 rfl (by decide)) ?_
    refine WL.p h (Val.ext rfl rfl) ?_
    refine WL.p h (Val.ext rfl rfl) ?_
    refine WL.nil ?_
    refine W.condF rfl ?_
    refine W.seq (W.region rfl ?_)
    refine WL.p h (Val.taN N2 T2 rfl (by decide)) ?_
    refine WL.p h (Val.ext rfl rfl) ?_
    refine WL.p h (Val.ext rfl rfl) ?_
    refine WL.nil ?_
    refine W.condF rfl ?_
    refine W.skip ?_
    refine W.seq (W.region rfl ?_)
    refine WL.p h Val.as ?_
    refine WL.p h Val.as ?_
    refine WL.nil ?_
    refine W.ret ?_
    exact fin2 rfl rfl rfl (PVW.mk h.toExt rfl rfl)

/-- What a call that hands back one value in memory of its own tells. -/
def PO (F : Fz) (w0 : World) (l : List At × ByteArray) (e : Ending) (w : World) : Prop := ∃ s, e = .returned (.tuple #[.agg #[s], .string l.2]) ∧ Hp w0 F F [.own s 79 4 l.1.length (rowA l.1)] w
theorem Hp.only {w0 w : World} {F0 F : Fz} {L : List Ch} (h : Hp w0 F0 F L w) (i : Nat) {c : Ch} (hi : L[i]? = some c) : Hp w0 F0 F [c] w :=
  h.reorder (fun _ => i) (fun a b ha hb _ => by simp at ha hb; omega) (fun j e he => by
    cases j with
    | zero => simp at he; subst he; exact hi
    | succ j => simp at he)
theorem Hp.take1 {w0 w w' : World} {F0 F F1 : Fz} {L : List Ch} {c : Ch} (h : Hp w0 F0 F L w) (hp : Hp w F1 F1 [c] w') : Hp w0 F0 F (L ++ [c]) w' :=
  h.gain c hp.below (hp.holds 0 _ rfl) (fun b hb => (hp.fresh 0 _ b rfl hb).1)
def outA (p : V × ByteArray) : List At × ByteArray := if p.2 = ⟨#[]⟩ then (packV p.1, ⟨#[]⟩) else ([], p.2)
theorem outOf_calls (F : Fz) (w0 : World) (hF : Sub F (hv w0)) (p : V × ByteArray) (a : Value) (hr : Rep F p.1 a) (hl : (packV p.1).length ≤ 1048576) : Calls Try.prog 51 #[a, .string p.2] w0 (PO F w0 (outA p)) := by
  refine calls 12 Try.func51 rfl rfl rfl ?_
  have h := Hp.start hF
  refine W.seq (W.region rfl ?_)
  refine WL.alloc h T42 (fun b4 w h => ?_)
  refine WL.p h Val.as ?_
  refine WL.nil ?_
  refine W.seq (W.seq (W.region rfl ?_))
  refine WL.p h Val.mv ?_
  refine WL.p h (Val.sNe (a := p.2) (b := ⟨#[]⟩) rfl rfl) ?_
  refine WL.dec (fun c1 => ?_) (fun c1 => ?_)
  · refine WL.nil ?_
    refine W.condT rfl ?_
    refine W.seq (W.region rfl ?_)
    refine WL.p h (Val.build0 B42e) ?_
    refine WL.p h Val.mv ?_
    refine WL.stS 0 h rfl T42 rfl (vs := [.slice none 0 0]) rfl (one1 rfl) rfl rfl (fun w h => ?_)
    refine WL.p h Val.as ?_
    refine WL.nil ?_
    have h := h.nilRow 79 4
    refine W.ret ?_
    have ho : outA p = ([], p.2) := by rw [outA, if_neg c1]
    rw [ho]
    exact finBox2 h 0 rfl rfl rfl A42 T42 rfl rfl ⟨_, rfl, h.only 1 rfl⟩
  refine WL.nil ?_
  refine W.condF rfl ?_
  refine W.skip ?_
  have hp2 : p.2 = ⟨#[]⟩ := Decidable.not_not.1 c1
  refine W.seq (W.region rfl ?_)
  refine WL.p h Val.mv ?_
  refine WL.call C78 (args := [a]) rfl ((pack_calls F w h.sub p.1 a hr hl).mono ?_)
  rintro e w' ⟨s, rfl, hp⟩
  have h := h.take1 hp
  refine ⟨_, rfl, ?_⟩
  refine WL.stS 0 h rfl T42 rfl (vs := [s]) rfl (one1 (h.own1 1 rfl)) rfl rfl (fun w h => ?_)
  refine WL.p h Val.as ?_
  refine WL.nil ?_
  refine W.ret ?_
  have ho : outA p = (packV p.1, ⟨#[]⟩) := by rw [outA, if_pos hp2]
  rw [ho]
  exact finBox2 h 0 rfl rfl rfl A42 T42 rfl rfl ⟨_, rfl, h.only 1 rfl⟩

theorem un_out (op : Int) {a : At} {ks : List T} {k : List It} {v : V} (h : Inner a ks k v) : outA (unV op v) = unA op a ∧ (packV (unV op v).1).length ≤ 1 := by
  have hw : wType ≠ (⟨#[]⟩ : ByteArray) := by intro e; exact absurd (congrArg ByteArray.size e) (by decide)
  have hw2 : wRange ≠ (⟨#[]⟩ : ByteArray) := by intro e; exact absurd (congrArg ByteArray.size e) (by decide)
  cases h with
  | none h hk => simp [unV, outA, hw, packV, unA, h]
  | bool h hk hn =>
    by_cases p1 : op = 1
    · rcases hn with hn | hn <;> simp [unV, outA, packV, unA, h, p1, hn]
    · simp [unV, outA, hw, packV, unA, h, p1]
  | int h hk =>
    by_cases p1 : op = 2
    · by_cases p2 : a.n = -9223372036854775808
      · simp [unV, outA, hw2, packV, unA, h, p1, p2]
      · simp [unV, outA, packV, unA, h, p1, p2]
    · simp [unV, outA, hw, packV, unA, h, p1]
  | text h hk hs => simp [unV, outA, hw, packV, unA, h]
  | list h hl => simp [unV, outA, hw, packV, unA, h]
  | record h ns vs q hl hq hn hv ht hr => simp [unV, outA, hw, packV, unA, h]
theorem implUn_calls (F : Fz) (w0 : World) (hF : Sub F (hv w0)) (op : Int) (v : Value) (es : List At) (hr : FRow F v es.length 4 (rowA es)) : Calls Try.prog 23 #[.int .i64 op, .agg #[v]] w0 (PO F w0 (unP op es)) := by
  refine calls 24 Try.func23 rfl rfl rfl ?_
  have h := Hp.start hF
  refine W.seq (W.region rfl ?_)
  refine WL.box h rfl (fun b3 w h => ?_)
  refine WL.alloc h T42 (fun b4 w h => ?_)
  refine WL.p h Val.as ?_
  refine WL.nil ?_
  refine W.seq (W.region rfl ?_)
  refine WL.p h (Val.ldS 0 A42 T42 rfl rfl rfl) ?_
  refine WL.call C42 (args := [.agg #[v]]) rfl ((unpack_calls F w h.sub v es hr).mono ?_)
  rintro e w' ⟨F1, u, ok, rfl, hE, hu⟩
  have h := h.call hE
  refine ⟨_, rfl, ?_⟩
  refine WL.p h Val.mv ?_
  refine WL.p h (Val.ext (v := u) rfl rfl) ?_
  refine WL.p h (Val.ext (v := .bool ok) rfl rfl) ?_
  refine WL.p h Val.as ?_
  refine WL.p h Val.as ?_
  refine WL.nil ?_
  refine W.seq (W.seq (W.region rfl ?_))
  refine WL.p h Val.mv ?_
  refine WL.p h (Val.not rfl) ?_
  refine WL.nil ?_
  cases ht : treeP es with
  | none =>
    rw [treeP_none ht] at hu
    obtain rfl : ok = false := hu
    refine W.condT rfl ?_
    refine W.seq (W.region rfl ?_)
    refine WL.p h (Val.build0 B42e) ?_
    refine WL.stS 1 h rfl T42 rfl (vs := [.slice none 0 0]) rfl (one1 rfl) rfl rfl (fun w h => ?_)
    refine WL.p h Val.as ?_
    refine WL.nil ?_
    have h := (h.nilRow 79 4).weak (Sub.refl _) hE.ext
    refine W.ret ?_
    have hP : unP op es = ([], wType) := by rw [unP, ht]
    rw [hP]
    exact finBox2 h 1 rfl rfl rfl A42 T42 rfl rfl ⟨_, rfl, h.only 2 rfl⟩
  | some t =>
    obtain ⟨rfl, hw, hlen, it, hit, hun⟩ := treeP_some ht
    rw [hun] at hu
    obtain ⟨rfl, hrep⟩ := hu
    have hP : unP op t.enc = unA op t.atom := by rw [unP, ht]
    rw [hP]
    obtain ⟨x, ks⟩ := t
    obtain ⟨k, hk, hin⟩ := evalT_inner hw hit
    obtain ⟨ho, hl1⟩ := un_out op hin
    show W _ _ _ _ _ _
    simp only [T.atom]
    rw [← ho]
    refine W.condF rfl ?_
    refine W.skip ?_
    refine W.seq (W.region rfl ?_)
    refine WL.p h Val.mv ?_
    refine WL.p h Val.mv ?_
    refine WL.call C52 (args := [.int .i64 op, u]) rfl ((un_calls F1 _ h.sub op it.v u hrep).mono ?_)
    rintro e w' ⟨F2, r, rfl, hE2, hrr⟩
    have h := h.call hE2
    refine ⟨_, rfl, ?_⟩
    refine WL.p h (Val.ext (v := r) rfl rfl) ?_
    refine WL.p h (Val.ext (v := .string (unV op it.v).2) rfl rfl) ?_
    refine WL.call C51 (args := [r, .string (unV op it.v).2]) rfl ((outOf_calls F2 _ h.sub (unV op it.v) r hrr (by omega)).mono ?_)
    rintro e w' ⟨s, rfl, hp⟩
    have h := (h.take1 hp).weak (Sub.refl _) (hE.ext.trans hE2.ext)
    refine ⟨_, rfl, ?_⟩
    refine WL.p h (Val.ext (v := .agg #[s]) rfl rfl) ?_
    refine WL.p h (Val.ext (v := .string (outA (unV op it.v)).2) rfl rfl) ?_
    refine WL.stS 1 h rfl T42 rfl (vs := [s]) rfl (one1 (h.own1 2 rfl)) rfl rfl (fun w h => ?_)
    refine WL.p h Val.as ?_
    refine WL.nil ?_
    refine W.ret ?_
    exact finBox2 h 1 rfl rfl rfl A42 T42 rfl rfl ⟨_, rfl, h.only 2 rfl⟩
end Go.Proofs.Ytmiihhbgfijcmaa.K

