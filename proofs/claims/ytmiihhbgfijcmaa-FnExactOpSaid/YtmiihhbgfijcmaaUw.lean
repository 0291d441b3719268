/- FnExactUn: the walk of the law. -/
import Derived.Test.YtmiihhbgfijcmaaUi
namespace Go.Proofs.Ytmiihhbgfijcmaa.K
open Go Go.RowKit
set_option linter.unusedVariables false
set_option linter.unusedSimpArgs false
set_option maxRecDepth 20000
theorem box_marks {F : Fz} {b n c T : Nat} {k : Int} {cs : List Value} (hF : F b = some (.cells (mkC k n cs).toArray T (0, 0))) (hc : n ≤ c) (hm : n ≤ 1048576) : FRow F (.slice (some ⟨b, 0, none⟩) n c) n 4 (rowA (marks k n)) :=
  ⟨by rw [rowA_len, marks_len], by omega, ⟨_, c, rfl, hc⟩, .inr ⟨b, 0, c, _, T, _, rfl, hF, fun j u hu => by
    rw [Nat.zero_add, mkC]
    have hj := (List.getElem?_eq_some_iff.1 hu).1
    simp only [List.getElem?_toArray]
    rw [List.getElem?_append_left hj]; exact hu⟩⟩
/-- A value of the law's own is marked: whatever it is, it reads as the marks afterwards. -/
theorem markAny {w0 w : World} {F0 F : Fz} {L : List Ch} (h : Hp w0 F0 F L w) (i : Nat) {s : Value} {n : Nat} {xs : List Value} (hi : L[i]? = some (.own s 79 4 n xs)) (hn : n ≤ 1048576) :
    Calls Try.prog 24 #[.agg #[s], .int .i64 1] w fun e w' => e = .returned (.int .i64 (1 + 4 * n)) ∧ ∃ c', Hp w0 F0 F (L.set i c') w' ∧ ∀ w'', Ch.holds w'' c' → FRow (hv w'') s n 4 (rowA (marks 1 n)) := by
  obtain ⟨h1, h2⟩ := h.holds i _ hi
  rcases h2 with ⟨rfl, rfl⟩ | ⟨g, cap, cur, rfl, hg, hh, hle, hm, hcs, ht⟩
  · refine (mark0 (hv w) w (Sub.refl _) 1).mono ?_
    rintro e w' ⟨rfl, hE⟩
    exact ⟨by simp, .dead, (h.below_step hE.below).kill i, fun w'' _ => by simpa [marks, rowA] using nilF (hv w'') 4⟩
  · have hb : Hp w0 F0 F (L.set i (.box g cur.toList 79)) w := h.retell i (.box g cur.toList 79) hi (by simpa [Ch.holds] using hh) (fun b hb => by simpa [Ch.blk, Value.ownBlock] using hb)
    have hi' : (L.set i (.box g cur.toList 79))[i]? = some (.box g cur.toList 79) := List.getElem?_set_self (List.getElem?_eq_some_iff.1 hi).1
    obtain ⟨F1, hs1, hA, hback⟩ := hb.lend1 i hi'
    have hl : 4 * n ≤ cur.toList.length := by
      have := congrArg List.length ht
      rw [List.length_take, h1] at this
      simp at this ⊢
      omega
    refine (markValue_calls (k := 1) hA hle hl (by decide) hn).mono ?_
    rintro e w' ⟨rfl, hA'⟩
    have hb' := hback _ _ hA'
    rw [List.set_set] at hb'
    exact ⟨rfl, _, hb', fun w'' hw'' => box_marks hw'' hle hn⟩

set_option maxHeartbeats 4000000 in
theorem lawUn_calls (F : Fz) (w0 : World) (hF : Sub F (hv w0)) (op : Int) (va : Value) (es : List At) (hr : FRow F va es.length 4 (rowA es)) (hz : ∀ e ∈ es, e.t.size ≤ 9223372036854775807) :
    Calls Try.prog 7 #[.int .i64 op, .agg #[va]] w0 fun e w' => e = .returned (.bool true) ∧ Below w0.heap.size w0 w' := by
  refine calls 101 Try.func7 rfl rfl rfl ?_
  have h := Hp.start hF
  refine W.seq (W.region rfl ?_)
  refine WL.box h rfl (fun b3 w h => ?_)
  refine WL.p h Val.as ?_
  refine WL.nil ?_
  refine W.seq (W.region rfl ?_)
  refine WL.p h Val.as ?_
  refine WL.nil ?_
  refine W.seq (W.region rfl ?_)
  refine WL.p h (Val.ldS 0 A37 T37 rfl rfl rfl) ?_
  refine WL.p h Val.mv ?_
  refine WL.call C15 (args := [.agg #[va], .int .i64 1048576]) rfl ((szValue_calls F w h.sub va es hr 1048576 (by decide) hz).mono ?_)
  rintro e w' ⟨r, rfl, hE, hr1, hr2⟩
  have h := h.call hE
  refine ⟨_, rfl, ?_⟩
  refine WL.p h Val.as ?_
  refine WL.nil ?_
  refine W.seq (W.seq (W.region rfl ?_))
  refine WL.p h Val.mv ?_
  refine WL.p h (Val.lt rfl rfl) ?_
  refine WL.dec (fun c => ?_) (fun c => ?_)
  · refine WL.nil ?_
    refine W.condT rfl ?_
    refine W.seq (W.region rfl ?_)
    refine WL.p h Val.as ?_
    refine WL.nil ?_
    refine W.ret ?_
    exact fin1 (v := .bool true) rfl rfl ⟨rfl, h.toExt.below⟩
  refine WL.nil ?_
  refine W.condF rfl ?_
  refine W.skip ?_
  have hB : es.length ≤ 1048576 := by have := (hr2 (by omega)).1; omega
  obtain ⟨⟨l, wd⟩, hP⟩ : ∃ p, unP op es = p := ⟨_, rfl⟩
  have hl1 : l.length ≤ 1048576 := by
    have : (unP op es).1.length ≤ 1 := by unfold unP; split; simp; unfold unA; split; simp; split; split <;> simp; simp
    rw [hP] at this; simp only at this; omega
  have hSp : ∀ (F : Fz) (w : World), Sub F (hv w) → ∀ s, FRow F s es.length 4 (rowA es) → Calls Try.prog 22 #[.int .i64 op, .agg #[s]] w (PSW F w (l, wd)) := fun F w hF s hr => by
    have := specUn_calls F w hF op s es hr hB
    rwa [hP] at this
  have hIm : ∀ (F : Fz) (w : World), Sub F (hv w) → ∀ s, FRow F s es.length 4 (rowA es) → Calls Try.prog 23 #[.int .i64 op, .agg #[s]] w (PO F w (l, wd)) := fun F w hF s hr => by
    have := implUn_calls F w hF op s es hr
    rwa [hP] at this
  refine W.seq (W.region rfl ?_)
  refine WL.p h Val.mv ?_
  refine WL.p h (Val.ldS 0 A37 T37 rfl rfl rfl) ?_
  refine WL.call C17 (args := [.agg #[va]]) rfl ((toValue_row F _ h.sub va es hr hB).mono ?_)
  rintro e w' ⟨F1, s1, rfl, hE1, hrow1⟩
  have h := h.call hE1
  refine ⟨_, rfl, ?_⟩
  refine WL.call C22 (args := [.int .i64 op, .agg #[s1]]) rfl ((hSp F1 _ h.sub s1 hrow1).mono ?_)
  rintro e w' ⟨F2, sW, rfl, hE2, hrowW⟩
  have h := h.call hE2
  refine ⟨_, rfl, ?_⟩
  refine WL.p h Val.mv ?_
  refine WL.p h (Val.ext (v := .agg #[sW]) rfl rfl) ?_
  refine WL.p h (Val.ext (v := .string wd) rfl rfl) ?_
  refine WL.alloc h T42 (fun b6 w h => ?_)
  refine WL.stS 1 h rfl T42 rfl (vs := [sW]) rfl (one1 hrowW.one) rfl rfl (fun w h => ?_)
  refine WL.p h Val.as ?_
  refine WL.nil ?_
  have hr := hr.mono (hE1.ext.trans hE2.ext)
  refine W.seq (W.region rfl ?_)
  refine WL.p h (Val.ldS 0 A37 T37 rfl rfl rfl) ?_
  refine WL.call C17 (args := [.agg #[va]]) rfl ((toValue_calls F2 _ h.sub va es hr hB).mono ?_)
  rintro e w' ⟨xb, rfl, hE, hxb, hcell⟩
  have h := h.gain (.box xb (rowA es) 79) hE.below hcell (fun b' hb' => by simp only [Ch.blk, Option.some.injEq] at hb'; omega)
  refine ⟨_, rfl, ?_⟩
  refine WL.alloc h T42 (fun b8 w h => ?_)
  refine WL.stS 3 h rfl T42 rfl (vs := [.slice (some ⟨xb, 0, none⟩) es.length es.length]) rfl (one1 rfl) rfl rfl (fun w h => ?_)
  refine WL.nil ?_
  refine W.seq (W.region rfl ?_)
  refine WL.p h Val.mv ?_
  refine WL.p h (Val.ldS 3 A42 T42 rfl rfl rfl) ?_
  refine WL.call C23 (args := [.int .i64 op, .agg #[.slice (some ⟨xb, 0, none⟩) es.length es.length]]) rfl ((hIm (hv w) w (Sub.refl _) _ (box_row (h.holds 2 _ rfl) (rowA_len es) (by omega))).mono ?_)
  rintro e w' ⟨g0, rfl, hp⟩
  have h := h.take1 hp
  refine ⟨_, rfl, ?_⟩
  refine WL.p h Val.mv ?_
  refine WL.p h (Val.ext (v := .agg #[g0]) rfl rfl) ?_
  refine WL.p h (Val.ext (v := .string wd) rfl rfl) ?_
  refine WL.alloc h T42 (fun b9 w h => ?_)
  refine WL.stS 5 h rfl T42 rfl (vs := [g0]) rfl (one1 (h.own1 4 rfl)) rfl rfl (fun w h => ?_)
  refine WL.p h Val.as ?_
  refine WL.nil ?_
  refine W.seq (W.seq (W.region rfl ?_))
  refine WL.p h (Val.ldS 5 A42 T42 rfl rfl rfl) ?_
  refine WL.p h (Val.ldS 1 A42 T42 rfl rfl rfl) ?_
  refine WL.call C19 (args := [.agg #[g0], .agg #[sW]]) rfl ((eqValue_calls (hv w) w (Sub.refl _) g0 sW l l (h.row 4 rfl) (hrowW.mono h.sub)).mono ?_)
  rintro e w' ⟨rfl, hE⟩
  have h := h.below_step hE.below
  refine ⟨.bool true, by simp, ?_⟩
  refine WL.p h (Val.not rfl) ?_
  refine WL.p h Val.mv ?_
  refine WL.p h Val.mv ?_
  refine WL.p h Val.mv ?_
  refine WL.p h (Val.sNe (a := wd) (b := wd) rfl rfl) ?_
  refine WL.p h (Val.pick rfl) ?_
  refine WL.nil ?_
  refine W.condF (show Value.bool (decide (_ ≠ _)) = _ by simp) ?_
  refine W.skip ?_
  refine W.seq (W.seq (W.draw (fun w => Hp w0 F F2 [.box b3 [va] 37, .box b6 [sW] 42, .box xb (rowA es) 79, .box b8 [.slice (some ⟨xb, 0, none⟩) es.length es.length] 42, .own g0 79 4 l.length (rowA l), .box b9 [g0] 42] w) [] 5 (by kernel_rfl) rfl rfl ?_))
  have hS := h.drewN 1
  refine WD.take 0 rfl (by kernel_rfl) (fun _ _ _ h => fin_panic h) hS (Val.ldS 3 A42 T42 rfl rfl rfl) ?_
  refine WD.take 1 rfl (by kernel_rfl) (fun _ _ _ h => fin_panic h) hS (Val.ldS 0 A37 T37 rfl rfl rfl) ?_
  refine WD.one 2 rfl (by kernel_rfl) ?_
  refine WL.call C17 (args := [.agg #[va]]) rfl ((toValue_row (hv _) _ (Sub.refl _) va es (hr.mono hS.sub) hB).mono ?_)
  rintro e w' ⟨F3, s3, rfl, hE, hrow3⟩
  have hx1 := (box_row (hS.holds 2 _ rfl) (rowA_len es) (by omega : es.length ≤ 9223372036854775807)).mono hE.ext
  have hS := hS.below_step hE.below
  refine ⟨_, rfl, ?_⟩
  refine WL.nil ?_
  refine ⟨hS, ?_⟩
  refine WD.one 3 rfl (by kernel_rfl) ?_
  refine WL.call C19 (args := [.agg #[.slice (some ⟨xb, 0, none⟩) es.length es.length], .agg #[s3]]) rfl ((eqValue_calls F3 _ hE.sub _ s3 es es hx1 hrow3).mono ?_)
  rintro e w' ⟨rfl, hE⟩
  have hS := hS.below_step hE.below
  refine ⟨_, rfl, ?_⟩
  refine WL.nil ?_
  refine ⟨hS, ?_⟩
  refine WD.take 4 rfl (by kernel_rfl) (fun _ _ _ h => fin_panic h) hS (Val.not rfl) ?_
  refine WD.nil (by kernel_rfl) ?_
  have h := hS
  refine W.condF (show Value.bool (!decide (_ = _)) = _ by simp) ?_
  refine W.skip ?_
  refine W.seq (W.region rfl ?_)
  refine WL.p h Val.as ?_
  refine WL.nil ?_
  refine W.seq (W.region rfl ?_)
  refine WL.p h (Val.ldS 3 A42 T42 rfl rfl rfl) ?_
  refine WL.p h Val.mv ?_
  obtain ⟨Fx, hsx, hA, hback⟩ := h.lend1 2 rfl
  refine WL.call C24 (args := [.agg #[.slice (some ⟨xb, 0, none⟩) es.length es.length], .int .i64 1]) rfl ((markValue_calls (k := 1) hA (Nat.le_refl _) (by rw [rowA_len]; omega) (by decide) hB).mono ?_)
  rintro e w' ⟨rfl, hA'⟩
  have h := hback _ _ hA'
  refine ⟨_, rfl, ?_⟩
  refine WL.p h Val.as ?_
  refine WL.nil ?_
  refine W.seq (W.seq (W.region rfl ?_))
  refine WL.p h Val.mv ?_
  refine WL.p h (Val.lt (a := 1 + 4 * (es.length : Int)) (b := 0) rfl rfl) ?_
  refine WL.dec (fun c3 => ?_) (fun c3 => ?_)
  · omega
  refine WL.p h Val.mv ?_
  refine WL.p h (Val.ldS 5 A42 T42 rfl rfl rfl) ?_
  refine WL.p h (Val.ldS 1 A42 T42 rfl rfl rfl) ?_
  refine WL.call C19 (args := [.agg #[g0], .agg #[sW]]) rfl ((eqValue_calls (hv _) _ (Sub.refl _) g0 sW l l (h.row 4 rfl) (hrowW.mono h.sub)).mono ?_)
  rintro e w' ⟨rfl, hE⟩
  have h := h.below_step hE.below
  refine ⟨.bool true, by simp, ?_⟩
  refine WL.p h (Val.not rfl) ?_
  refine WL.p h (Val.pick rfl) ?_
  refine WL.p h Val.mv ?_
  refine WL.p h Val.mv ?_
  refine WL.p h Val.mv ?_
  refine WL.p h (Val.sNe (a := wd) (b := wd) rfl rfl) ?_
  refine WL.p h (Val.pick rfl) ?_
  refine WL.nil ?_
  refine W.condF (show Value.bool (decide (_ ≠ _)) = _ by simp) ?_
  refine W.skip ?_
  refine W.seq (W.region rfl ?_)
  refine WL.p h Val.as ?_
  refine WL.nil ?_
  refine W.seq (W.region rfl ?_)
  refine WL.p h (Val.ldS 5 A42 T42 rfl rfl rfl) ?_
  refine WL.p h Val.mv ?_
  refine WL.call C24 (args := [.agg #[g0], .int .i64 1]) rfl ((markAny h 4 rfl hl1).mono ?_)
  rintro e w' ⟨rfl, c', h, hmk⟩
  refine ⟨_, rfl, ?_⟩
  refine WL.p h Val.as ?_
  refine WL.nil ?_
  refine W.seq (W.region rfl ?_)
  refine WL.p h Val.as ?_
  refine WL.nil ?_
  refine W.seq (W.region rfl ?_)
  refine WL.p h (Val.ldS 5 A42 T42 rfl rfl rfl) ?_
  refine WL.p h Val.mv ?_
  refine WL.call C25 (args := [.agg #[g0], .int .i64 1]) rfl ((heldValue_calls (hv _) _ (Sub.refl _) g0 l.length 1 (hmk _ (h.holds 4 _ rfl)) (by decide) hl1).mono ?_)
  rintro e w' ⟨rfl, hE⟩
  have h := h.below_step hE.below
  refine ⟨_, rfl, ?_⟩
  refine WL.p h Val.as ?_
  refine WL.nil ?_
  refine W.seq (W.seq (W.region rfl ?_))
  refine WL.p h Val.mv ?_
  refine WL.p h (Val.lt (a := 1 + 4 * (l.length : Int)) (b := 0) rfl rfl) ?_
  refine WL.dec (fun c4 => ?_) (fun c4 => ?_)
  · omega
  refine WL.nil ?_
  refine W.condF rfl ?_
  refine W.skip ?_
  refine W.seq (W.seq (W.region rfl ?_))
  refine WL.p h Val.mv ?_
  refine WL.p h Val.mv ?_
  refine WL.p h (Val.ne (a := 1 + 4 * (l.length : Int)) (b := 1 + 4 * (l.length : Int)) rfl rfl) ?_
  refine WL.nil ?_
  refine W.condF (show Value.bool (decide (_ ≠ _)) = _ by simp) ?_
  refine W.skip ?_
  refine W.seq (W.region rfl ?_)
  refine WL.p h Val.mv ?_
  refine WL.p h (Val.ldS 0 A37 T37 rfl rfl rfl) ?_
  refine WL.call C17 (args := [.agg #[va]]) rfl ((toValue_row (hv _) _ (Sub.refl _) va es (hr.mono h.sub) hB).mono ?_)
  rintro e w' ⟨F4, s4, rfl, hE, hrow4⟩
  have h := h.below_step hE.below
  refine ⟨_, rfl, ?_⟩
  refine WL.call C23 (args := [.int .i64 op, .agg #[s4]]) rfl ((hIm F4 _ hE.sub s4 hrow4).mono ?_)
  rintro e w' ⟨h0, rfl, hp⟩
  have h := h.take1 hp
  refine ⟨_, rfl, ?_⟩
  refine WL.p h Val.mv ?_
  refine WL.p h (Val.ext (v := .agg #[h0]) rfl rfl) ?_
  refine WL.p h (Val.ext (v := .string wd) rfl rfl) ?_
  refine WL.alloc h T42 (fun b14 w h => ?_)
  refine WL.stS 7 h rfl T42 rfl (vs := [h0]) rfl (one1 (h.own1 6 rfl)) rfl rfl (fun w h => ?_)
  refine WL.p h Val.as ?_
  refine WL.nil ?_
  refine W.seq (W.seq (W.region rfl ?_))
  refine WL.p h (Val.ldS 7 A42 T42 rfl rfl rfl) ?_
  refine WL.p h (Val.ldS 1 A42 T42 rfl rfl rfl) ?_
  refine WL.call C19 (args := [.agg #[h0], .agg #[sW]]) rfl ((eqValue_calls (hv _) _ (Sub.refl _) h0 sW l l (h.row 6 rfl) (hrowW.mono h.sub)).mono ?_)
  rintro e w' ⟨rfl, hE⟩
  have h := h.below_step hE.below
  refine ⟨.bool true, by simp, ?_⟩
  refine WL.p h (Val.not rfl) ?_
  refine WL.p h Val.mv ?_
  refine WL.p h Val.mv ?_
  refine WL.p h Val.mv ?_
  refine WL.p h (Val.sNe (a := wd) (b := wd) rfl rfl) ?_
  refine WL.p h (Val.pick rfl) ?_
  refine WL.nil ?_
  refine W.condF (show Value.bool (decide (_ ≠ _)) = _ by simp) ?_
  refine W.skip ?_
  refine W.seq (W.region rfl ?_)
  refine WL.p h Val.as ?_
  refine WL.nil ?_
  refine W.seq (W.region rfl ?_)
  refine WL.p h (Val.ldS 5 A42 T42 rfl rfl rfl) ?_
  refine WL.p h Val.mv ?_
  refine WL.call C25 (args := [.agg #[g0], .int .i64 1]) rfl ((heldValue_calls (hv _) _ (Sub.refl _) g0 l.length 1 (hmk _ (h.holds 4 _ rfl)) (by decide) hl1).mono ?_)
  rintro e w' ⟨rfl, hE⟩
  have h := h.below_step hE.below
  refine ⟨_, rfl, ?_⟩
  refine WL.p h Val.as ?_
  refine WL.nil ?_
  refine W.seq (W.seq (W.region rfl ?_))
  refine WL.p h Val.mv ?_
  refine WL.p h (Val.lt (a := 1 + 4 * (l.length : Int)) (b := 0) rfl rfl) ?_
  refine WL.dec (fun c5 => ?_) (fun c5 => ?_)
  · omega
  refine WL.nil ?_
  refine W.condF rfl ?_
  refine W.skip ?_
  refine W.seq (W.seq (W.region rfl ?_))
  refine WL.p h Val.mv ?_
  refine WL.p h Val.mv ?_
  refine WL.p h (Val.ne (a := 1 + 4 * (l.length : Int)) (b := 1 + 4 * (l.length : Int)) rfl rfl) ?_
  refine WL.nil ?_
  refine W.condF (show Value.bool (decide (_ ≠ _)) = _ by simp) ?_
  refine W.skip ?_
  refine W.seq (W.region rfl ?_)
  refine WL.p h Val.as ?_
  refine WL.nil ?_
  refine W.ret ?_
  exact fin1 (v := .bool true) rfl rfl ⟨rfl, h.below⟩
end Go.Proofs.Ytmiihhbgfijcmaa.K

