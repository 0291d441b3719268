/- l5Edge: a value at a limit; told loosely. -/
import Derived.Test.YtmiihhbgfijcmaaDd
namespace Go.Proofs.Ytmiihhbgfijcmaa.K
open Go Go.RowKit
set_option linter.unusedVariables false
set_option linter.unusedSimpArgs false
set_option maxRecDepth 20000
theorem C80 : CF Try.prog 80 := ⟨_, Try.func80, rfl, rfl⟩
section
variable {w0 w w' : World} {F0 F : Fz} {br : Nat} {bv : Value} {p : Int} {bs : List UInt8}
/-- The middle ones are let go. -/
theorem Hp.skipMid {A B : List Ch} {c : Ch} (h : Hp w0 F0 F (A ++ B ++ [c]) w) : Hp w0 F0 F (A ++ [c]) w :=
  h.reorder (fun k => if k < A.length then k else A.length + B.length) (fun a b ha hb e => by
    simp at ha hb
    split at e <;> split at e <;> omega) (fun k e he => by
    by_cases hk : k < A.length
    · simp only [if_pos hk]
      rw [List.getElem?_append_left hk] at he
      rw [List.append_assoc, List.getElem?_append_left hk]; exact he
    · simp only [if_neg hk]
      have : k = A.length := by
        have := (List.getElem?_eq_some_iff.1 he).1
        simp at this; omega
      subst this
      rw [List.getElem?_append_right (Nat.le_refl _), Nat.sub_self] at he
      rw [List.getElem?_append_right (by simp), List.length_append, Nat.sub_self]; exact he)
/-- Like PR; the value may be empty. -/
def PA (w0 : World) (F0 F : Fz) (br : Nat) (bv : Value) (p C : Int) (B : Nat) (e : Ending) (w : World) : Prop :=
  ∃ s es c p', e = .returned (.agg #[s]) ∧ Hp w0 F0 F [rd br bv p', c] w ∧ Held c s es.length 4 (rowA es) ∧ p ≤ p' ∧ p' ≤ p + C ∧ es.length ≤ B
theorem PR.toPA {C C' : Int} {B B' : Nat} {e : Ending} (h : PR w0 F0 F br bv p C B e w) (hC : C ≤ C') (hB : B ≤ B') : PA w0 F0 F br bv p C' B' e w := by
  obtain ⟨s, es, c, p', he, h', hh, h1, h2, h3, h4⟩ := h
  exact ⟨s, es, c, p', he, h', hh, h1, by omega, by omega⟩
theorem liftA {L : List Ch} {f : FuncId} {args : Array Value} {C : Int} {B : Nat} (h : Hp w0 F0 F L w) (i : Nat) (hi : L[i]? = some (rd br bv p)) (base : ∀ F1, Sub F F1 → Hp w0 F0 F1 [rd br bv p] w → Calls Try.prog f args w (PA w0 F0 F1 br bv p C B)) :
    Calls Try.prog f args w fun e w' => ∃ s es c p', e = .returned (.agg #[s]) ∧ Hp w0 F0 F (L.set i (rd br bv p') ++ [c]) w' ∧ Held c s es.length 4 (rowA es) ∧ p ≤ p' ∧ p' ≤ p + C ∧ es.length ≤ B := by
  obtain ⟨F1, hs, hA, hback⟩ := h.lend2 i hi
  refine (base F1 hs hA).mono ?_
  rintro e w' ⟨s, es, c, p', rfl, h', hh, h1, h2, h4⟩
  exact ⟨s, es, c, p', rfl, hback _ _ _ h', hh, h1, h2, h4⟩
end
theorem KR.one {F : Fz} {s : Value} {es : List At} (h : FRow F s es.length 4 (rowA es)) : KR F [s] [es] := KR.nil.snoc h
set_option maxHeartbeats 4000000 in
theorem l5Edge_calls {w0 w : World} {F0 F : Fz} {br : Nat} {bv : Value} {p : Int} {bs : List UInt8} (h : Hp w0 F0 F [rd br bv p] w) (hr : FRow F bv bs.length 1 (rowB bs)) (hl : bs.length ≤ 2000) (hp : 0 ≤ p ∧ p ≤ 1099511600000) :
    Calls Try.prog 80 #[pt br] w (PR w0 F0 F br bv p 2000 1100) := by
  refine calls 72 Try.func80 rfl rfl rfl ?_
  have h0F := h.ext
  refine W.seq (W.region rfl ?_)
  refine WL.alloc h T42 (fun b2 w h => ?_)
  refine WL.nil ?_
  refine W.seq (W.region rfl ?_)
  refine WL.call C100 (args := []) rfl ((l5None_new w).mono ?_)
  intro e w' hp'
  obtain ⟨s0, c0, rfl, h, hh0⟩ := h.takeC hp'
  refine ⟨_, rfl, ?_⟩
  refine WL.alloc h T42 (fun b3 w h => ?_)
  refine WL.stS 3 h rfl T42 rfl (vs := [s0]) rfl (one1 (hh0.one (h.holds 2 _ rfl))) rfl rfl (fun w h => ?_)
  refine WL.nil ?_
  refine W.seq (W.seq (W.region rfl ?_))
  refine WL.p h Val.mv ?_
  refine WL.call C57 (args := [pt br, .int .i64 3]) rfl ((pickL h 0 rfl hr hl (by omega) 3 (by omega)).mono ?_)
  rintro e w' ⟨r, rfl, h, hr1, hr2⟩
  refine ⟨_, rfl, ?_⟩
  refine WL.nil ?_
  refine W.block ?_
  refine W.seq (W.region rfl ?_)
  refine WL.p h (Val.eq (a := r) (b := 0) rfl rfl) ?_
  refine WL.dec (fun c1 => ?_) (fun c1 => ?_)
  · refine WL.p h Val.as ?_
    refine WL.nil ?_
    refine W.condT rfl ?_
    refine W.seq (W.seq (W.region rfl ?_))
    refine WL.p h Val.mv ?_
    refine WL.call C57 (args := [pt br, .int .i64 2]) rfl ((pickL h 0 rfl hr hl (by omega) 2 (by omega)).mono ?_)
    rintro e w' ⟨x, rfl, h, hx1, hx2⟩
    refine ⟨_, rfl, ?_⟩
    have hx2 := hx2 (by omega)
    refine WL.p h (Val.addi (a := 12) (b := x) (c := 12 + x) rfl rfl (by omega)) ?_
    refine WL.p h Val.as ?_
    refine WL.nil ?_
    refine W.block ?_
    have hsw : Hp w0 F0 F [rd br bv (p + 1 + 1), .box b2 [.slice none 0 0] 42, .box b3 [s0] 42, c0] w' := h.reorder (fun k => if k = 2 then 3 else if k = 3 then 2 else k) (fun a b ha hb e => by
      simp at ha hb
      split at e <;> split at e <;> (try split at e) <;> (try split at e) <;> omega) (fun k e he => by
      match k, he with
      | 0, he => exact he
      | 1, he => exact he
      | 2, he => exact he
      | 3, he => exact he)
    refine W.loop (fun m R w => ∃ (s : Value) (es : List At) (c : Ch), Hp w0 F0 F [rd br bv (p + 1 + 1), .box b2 [.slice none 0 0] 42, .box b3 [s] 42, c] w ∧ Held c s es.length 4 (rowA es) ∧ es ≠ [] ∧ es.length + m ≤ 14 ∧ R 2 = pt b2 ∧ R 3 = pt b3 ∧ R 4 = .int .i64 (m : Int)) (12 + x).toNat ?_ (fun m R w hI => ?_)
    · exact ⟨s0, _, c0, hsw, hh0, by simp, by simp only [List.length_singleton]; omega, rfl, rfl, by show Value.int .i64 (12 + x) = _; congr 1; omega⟩
    clear h hsw
    obtain ⟨s, es, c, h, hh, hne, hlen, h2, h3, h4⟩ := hI
    refine W.seq (W.seq (W.region rfl ?_))
    refine WL.p h Val.mv ?_
    refine WL.p h (Val.gt h4 rfl) ?_
    refine WL.dec (fun c2 => ?_) (fun c2 => ?_)
    · refine WL.nil ?_
      refine W.condT rfl ?_
      refine W.skip ?_
      refine W.seq (W.block ?_)
      refine W.region rfl ?_
      refine WL.p h (Val.ldS 2 A42 T42 rfl h3 rfl) ?_
      refine WL.bs1 h Try.underlying102 T42 (by decide) (cs := [s]) rfl rfl (fun b8 w h => ?_)
      refine WL.call C87 (args := [.int .i64 5, .slice (some ⟨b8, 0, none⟩) 1 1]) rfl ((l5Make_new w 5 (.slice (some ⟨b8, 0, none⟩) 1 1) [s] [es] (box_row (h.holds 4 _ rfl) rfl (by omega)) (KR.one (h.rowHeld 3 rfl hh)) (fun e he => by rw [List.mem_singleton.1 he]; exact hne) (by simp; omega)).mono ?_)
      intro e w' hp'
      obtain ⟨s', c', rfl, h, hh'⟩ := h.takeC hp'
      refine ⟨_, rfl, ?_⟩
      refine WL.stS 2 h rfl T42 h3 (vs := [s']) rfl (one1 (hh'.one (h.holds 5 _ rfl))) rfl rfl (fun w h => ?_)
      refine WL.nil ?_
      refine W.region rfl ?_
      refine WL.p h Val.mv ?_
      refine WL.p h (Val.subi (c := ((m - 1 : Nat) : Int)) h4 rfl (by omega)) ?_
      refine WL.p h Val.as ?_
      refine WL.nil ?_
      exact ⟨m - 1, by omega, s', _, c', Hp.skipMid (A := [rd br bv (p + 1 + 1), .box b2 [.slice none 0 0] 42, .box b3 [s'] 42]) (B := [c, .box b8 [s] 42]) h, hh', by simp, by simp; omega, h2, h3, rfl⟩
    · refine WL.nil ?_
      refine W.condF rfl ?_
      refine W.exit ?_
      refine W.seq (W.region rfl ?_)
      refine WL.p h (Val.ldS 2 A42 T42 rfl h3 rfl) ?_
      refine WL.stS 1 h rfl T42 h2 (vs := [s]) rfl (one1 (hh.one (h.holds 3 _ rfl))) rfl rfl (fun w h => ?_)
      refine WL.nil ?_
      refine W.ret ?_
      exact finBox h 1 rfl h2 rfl A42 T42 rfl (PR.mk' h h0F (Sub.refl _) 0 3 (by decide) rfl rfl hh (by omega) (by omega) hne (by omega))
  refine WL.p h Val.as ?_
  refine WL.nil ?_
  refine W.condF rfl ?_
  refine W.seq (W.region rfl ?_)
  refine WL.p h (Val.eq (a := r) (b := 1) rfl rfl) ?_
  refine WL.dec (fun c2 => ?_) (fun c2 => ?_)
  · refine WL.p h Val.as ?_
    refine WL.nil ?_
    refine W.condT rfl ?_
    refine W.seq (W.region rfl ?_)
    refine WL.bs0 h Try.underlying102 T42 (fun b5 w h => ?_)
    refine WL.p h Val.as ?_
    refine WL.nil ?_
    refine W.seq (W.seq (W.region rfl ?_))
    refine WL.p h Val.mv ?_
    refine WL.call C57 (args := [pt br, .int .i64 3]) rfl ((pickL h 0 rfl hr hl (by omega) 3 (by omega)).mono ?_)
    rintro e w' ⟨x, rfl, h, hx1, hx2⟩
    refine ⟨_, rfl, ?_⟩
    have hx2 := hx2 (by omega)
    refine WL.p h (Val.addi (a := 199) (b := x) (c := 199 + x) rfl rfl (by omega)) ?_
    refine WL.p h Val.as ?_
    refine WL.nil ?_
    refine W.block ?_
    refine W.loop (fun m R w => ∃ (F' : Fz) (kv : Value) (ss : List Value) (ess : List (List At)), Sub F F' ∧ Hp w0 F0 F' [rd br bv (p + 1 + 1), .box b2 [.slice none 0 0] 42, c0, .box b3 [s0] 42, .own kv 42 1 ess.length ss] w ∧ KR F' ss ess ∧ KB ess 1 ∧ ess.length + m ≤ 201 ∧ R 2 = pt b2 ∧ R 5 = kv ∧ R 6 = .int .i64 (m : Int)) (199 + x).toNat ?_ (fun m R w hI => ?_)
    · exact ⟨F, _, [], [], Sub.refl _, h, KR.nil, KB.nil, by simp only [List.length_nil]; omega, rfl, rfl, by show Value.int .i64 (199 + x) = _; congr 1; omega⟩
    clear h
    obtain ⟨F', kv, ss, ess, hs1, h, hko, hbo, hlo, h2, h5, h6⟩ := hI
    refine W.seq (W.seq (W.region rfl ?_))
    refine WL.p h Val.mv ?_
    refine WL.p h (Val.gt h6 rfl) ?_
    refine WL.dec (fun c3 => ?_) (fun c3 => ?_)
    · refine WL.nil ?_
      refine W.condT rfl ?_
      refine W.skip ?_
      refine W.seq (W.block ?_)
      refine W.region rfl ?_
      refine WL.p h Val.mv ?_
      refine WL.p h Val.mv ?_
      refine WL.p h (Val.rem h6 rfl (by decide)) ?_
      refine WL.call C50 (args := [.int .i64 ((m : Int).tmod 3)]) rfl ((l5Int_new w _).mono ?_)
      intro e w' hp'
      obtain ⟨F2, s, rfl, hs2, h, hrow⟩ := h.takeF hp'
      refine ⟨_, rfl, ?_⟩
      refine WL.bs1 h Try.underlying102 T42 (by decide) (cs := [s]) rfl rfl (fun b8 w h => ?_)
      refine WL.app 4 h rfl Try.underlying102 T42 (by decide) h5 rfl (news := [s]) rfl (box_news h (i := 5) rfl) (one1 hrow.one) (by omega) (by omega) (fun kv' w h => ?_)
      refine WL.p h Val.as ?_
      refine WL.nil ?_
      refine W.region rfl ?_
      refine WL.p h Val.mv ?_
      refine WL.p h (Val.subi (c := ((m - 1 : Nat) : Int)) h6 rfl (by omega)) ?_
      refine WL.p h Val.as ?_
      refine WL.nil ?_
      exact ⟨m - 1, by omega, F2, kv', ss ++ [s], ess ++ [[⟨3, (m : Int).tmod 3, ⟨#[]⟩, 0⟩]], hs1.trans hs2, (h.keep 5).cast (by simp), (hko.mono hs2).snoc hrow, hbo.snoc (by simp) (by simp), by simp; omega, h2, rfl, rfl⟩
    · refine WL.nil ?_
      refine W.condF rfl ?_
      refine W.exit ?_
      have hfl := hbo.flat
      refine W.seq (W.region rfl ?_)
      refine WL.p h Val.mv ?_
      refine WL.call C87 (args := [.int .i64 5, kv]) (congrArg (fun x => [Value.int .i64 5, x]) h5) ((l5Make_new w 5 kv ss ess (h.row 4 rfl) (hko.mono h.sub) (fun es he => (hbo es he).1) (by omega)).mono ?_)
      intro e w' hp'
      obtain ⟨s, c, rfl, h, hh⟩ := h.takeC hp'
      refine ⟨_, rfl, ?_⟩
      refine WL.stS 1 h rfl T42 h2 (vs := [s]) rfl (one1 (hh.one (h.holds 5 _ rfl))) rfl rfl (fun w h => ?_)
      refine WL.nil ?_
      refine W.ret ?_
      exact finBox h 1 rfl h2 rfl A42 T42 rfl (PR.mk' h h0F hs1 0 5 (by decide) rfl rfl hh (by omega) (by omega) (by simp) (by simp only [List.length_append, List.length_singleton]; omega))
  refine WL.p h Val.as ?_
  refine WL.nil ?_
  refine W.condF rfl ?_
  refine W.skip ?_
  refine W.seq (W.region rfl ?_)
  refine WL.bs0 h Try.underlying102 T42 (fun b7 w h => ?_)
  refine WL.p h Val.as ?_
  refine WL.nil ?_
  refine W.seq (W.seq (W.region rfl ?_))
  refine WL.p h Val.as ?_
  refine WL.nil ?_
  refine W.block ?_
  have hpre : Hp w0 F0 F [rd br bv (p + 1), .box b2 [.slice none 0 0] 42, c0, .own (.slice (some ⟨b7, 0, none⟩) 0 0) 42 1 0 []] w := h.skipMid (A := [rd br bv (p + 1), .box b2 [.slice none 0 0] 42, c0]) (B := [.box b3 [s0] 42])
  clear h
  refine W.loop (fun m R w => ∃ (i : Nat) (F' : Fz) (kv : Value) (ss : List Value) (ess : List (List At)) (p' : Int), m + i = 5 ∧ Sub F F' ∧ Hp w0 F0 F' [rd br bv p', .box b2 [.slice none 0 0] 42, c0, .own kv 42 1 ess.length ss] w ∧ KR F' ss ess ∧ KB ess 201 ∧ ess.length = i ∧ p ≤ p' ∧ p' ≤ p + 1 + 202 * i ∧ R 0 = pt br ∧ R 2 = pt b2 ∧ R 7 = kv ∧ R 8 = .int .i64 (i : Int)) 5 ?_ (fun m R w hI => ?_)
  · exact ⟨0, F, _, [], [], _, rfl, Sub.refl _, hpre, KR.nil, KB.nil, rfl, by omega, by omega, rfl, rfl, rfl, rfl⟩
  clear hpre
  obtain ⟨i, F', kv, ss, ess, p', hm, hs1, h, hko, hbo, hlo, hp1, hp2, h0, h2, h7, h8⟩ := hI
  refine W.seq (W.seq (W.region rfl ?_))
  refine WL.p h Val.mv ?_
  refine WL.p h (Val.lt h8 rfl) ?_
  refine WL.dec (fun c3 => ?_) (fun c3 => ?_)
  · refine WL.nil ?_
    refine W.condT rfl ?_
    refine W.skip ?_
    refine W.seq (W.block ?_)
    refine W.seq (W.region rfl ?_)
    refine WL.bs0 h Try.underlying102 T42 (fun b9 w h => ?_)
    refine WL.p h Val.as ?_
    refine WL.nil ?_
    refine W.seq (W.seq (W.region rfl ?_))
    refine WL.p h Val.as ?_
    refine WL.nil ?_
    refine W.block ?_
    refine W.loop (fun m2 R w => ∃ (k : Nat) (F2 : Fz) (iv : Value) (is : List Value) (iss : List (List At)) (p2 : Int), m2 + k = 201 ∧ Sub F' F2 ∧ Hp w0 F0 F2 [rd br bv p2, .box b2 [.slice none 0 0] 42, c0, .own kv 42 1 ess.length ss, .own iv 42 1 iss.length is] w ∧ KR F2 is iss ∧ KB iss 1 ∧ iss.length = k ∧ k ≤ 200 ∧ p' ≤ p2 ∧ p2 ≤ p' + k ∧ R 0 = pt br ∧ R 2 = pt b2 ∧ R 7 = kv ∧ R 8 = .int .i64 (i : Int) ∧ R 9 = iv ∧ R 10 = .int .i64 (k : Int)) 201 ?_ (fun m2 R w hI => ?_)
    · exact ⟨0, F', _, [], [], _, rfl, Sub.refl _, h, KR.nil, KB.nil, rfl, by omega, by omega, by omega, h0, h2, h7, h8, rfl, rfl⟩
    clear h h0 h2 h7 h8
    obtain ⟨k, F2, iv, is, iss, p2, hm2, hs2, h, hki, hbi, hli, hk2, hp21, hp22, h0, h2, h7, h8, h9, h10⟩ := hI
    refine W.seq (W.seq (W.region rfl ?_))
    refine WL.p h Val.mv ?_
    refine WL.p h Val.mv ?_
    refine WL.call C57 (args := [pt br, .int .i64 3]) (congrArg (fun x => [x, Value.int .i64 3]) h0) ((pickL h 0 rfl (hr.mono (hs1.trans hs2)) hl (by omega) 3 (by omega)).mono ?_)
    rintro e w' ⟨x, rfl, h, hx1, hx2⟩
    refine ⟨_, rfl, ?_⟩
    have hx2 := hx2 (by omega)
    obtain ⟨q, hq, hq2⟩ : ∃ q : Int, q = (i : Int).tdiv 4 ∧ (q = 0 ∨ q = 1) := ⟨_, rfl, by rw [Int.tdiv_eq_ediv_of_nonneg (by omega)]; omega⟩
    obtain ⟨y, hy, hy2⟩ : ∃ y : Int, y = x * q ∧ 0 ≤ y ∧ y ≤ 2 := ⟨_, rfl, by rcases hq2 with e | e <;> rw [e] <;> omega⟩
    refine WL.p h Val.mv ?_
    refine WL.p h (Val.quoi (c := q) h8 rfl (by decide) ⟨hq, by omega⟩) ?_
    refine WL.p h (Val.muli (c := y) rfl rfl ⟨hy, by omega⟩) ?_
    refine WL.p h (Val.addi (a := 198) (c := 198 + y) rfl rfl (by omega)) ?_
    refine WL.p h (Val.lt (b := 198 + y) h10 rfl) ?_
    refine WL.dec (fun c4 => ?_) (fun c4 => ?_)
    · refine WL.nil ?_
      refine W.condT rfl ?_
      refine W.skip ?_
      refine W.seq (W.block ?_)
      refine W.region rfl ?_
      refine WL.p h Val.mv ?_
      refine WL.call C100 (args := []) rfl ((l5None_new _).mono ?_)
      intro e w' hp'
      obtain ⟨F3, s, rfl, hs3, h, hrow⟩ := h.takeF hp'
      refine ⟨_, rfl, ?_⟩
      refine WL.bs1 h Try.underlying102 T42 (by decide) (cs := [s]) rfl rfl (fun b8 w h => ?_)
      refine WL.app 4 h rfl Try.underlying102 T42 (by decide) h9 rfl (news := [s]) rfl (box_news h (i := 5) rfl) (one1 hrow.one) (by omega) (by omega) (fun iv' w h => ?_)
      refine WL.p h Val.as ?_
      refine WL.nil ?_
      refine W.region rfl ?_
      refine WL.p h Val.mv ?_
      refine WL.p h (Val.addi (c := ((k + 1 : Nat) : Int)) h10 rfl (by omega)) ?_
      refine WL.p h Val.as ?_
      refine WL.nil ?_
      exact ⟨m2 - 1, by omega, k + 1, F3, iv', is ++ [s], iss ++ [[⟨1, 0, ⟨#[]⟩, 0⟩]], p2 + 1, by omega, hs2.trans hs3, (h.keep 5).cast (by simp), (hki.mono hs3).snoc hrow, hbi.snoc (by simp) (by simp), by simp [hli], by omega, by omega, by omega, h0, h2, h7, h8, rfl, rfl⟩
    · refine WL.nil ?_
      refine W.condF rfl ?_
      refine W.exit ?_
      have hfl := hbi.flat
      refine W.region rfl ?_
      refine WL.p h Val.mv ?_
      refine WL.p h Val.mv ?_
      refine WL.call C87 (args := [.int .i64 5, iv]) (congrArg (fun x => [Value.int .i64 5, x]) h9) ((l5Make_new _ 5 iv is iss (h.row 4 rfl) (hki.mono h.sub) (fun es he => (hbi es he).1) (by omega)).mono ?_)
      intro e w' hp'
      obtain ⟨F3, s, rfl, hs3, h, hrow⟩ := h.takeF hp'
      refine ⟨_, rfl, ?_⟩
      refine WL.bs1 h Try.underlying102 T42 (by decide) (cs := [s]) rfl rfl (fun b8 w h => ?_)
      refine WL.app 3 h rfl Try.underlying102 T42 (by decide) h7 rfl (news := [s]) rfl (box_news h (i := 5) rfl) (one1 hrow.one) (by omega) (by omega) (fun kv' w h => ?_)
      refine WL.p h Val.as ?_
      refine WL.nil ?_
      refine W.region rfl ?_
      refine WL.p h Val.mv ?_
      refine WL.p h (Val.addi (c := ((i + 1 : Nat) : Int)) h8 rfl (by omega)) ?_
      refine WL.p h Val.as ?_
      refine WL.nil ?_
      exact ⟨m - 1, by omega, i + 1, F3, kv', ss ++ [s], ess ++ [iss.flatten ++ [⟨5, 0, ⟨#[]⟩, iss.length⟩]], p2 + 1, by omega, hs1.trans (hs2.trans hs3), (h.keep 4).cast (by simp), (hko.mono (hs2.trans hs3)).snoc hrow, hbo.snoc (by simp) (by simp only [List.length_append, List.length_singleton]; omega), by simp [hlo], by omega, by omega, h0, h2, rfl, rfl⟩
  · refine WL.nil ?_
    refine W.condF rfl ?_
    refine W.exit ?_
    have hfl := hbo.flat
    have hfl2 : ess.flatten.length ≤ 5 * 201 := Nat.le_trans hfl (Nat.mul_le_mul_right _ (by omega))
    refine W.seq (W.region rfl ?_)
    refine WL.p h Val.mv ?_
    refine WL.call C87 (args := [.int .i64 5, kv]) (congrArg (fun x => [Value.int .i64 5, x]) h7) ((l5Make_new w 5 kv ss ess (h.row 3 rfl) (hko.mono h.sub) (fun es he => (hbo es he).1) (by omega)).mono ?_)
    intro e w' hp'
    obtain ⟨s, c, rfl, h, hh⟩ := h.takeC hp'
    refine ⟨_, rfl, ?_⟩
    refine WL.stS 1 h rfl T42 h2 (vs := [s]) rfl (one1 (hh.one (h.holds 4 _ rfl))) rfl rfl (fun w h => ?_)
    refine WL.nil ?_
    refine W.ret ?_
    exact finBox h 1 rfl h2 rfl A42 T42 rfl (PR.mk' h h0F hs1 0 4 (by decide) rfl rfl hh (by omega) (by omega) (by simp) (by simp only [List.length_append, List.length_singleton]; omega))
end Go.Proofs.Ytmiihhbgfijcmaa.K

