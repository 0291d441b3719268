/- FnExactOrder: the walk of the law. -/
import Derived.Test.YtmiihhbgfijcmaaOi
import Derived.Test.YtmiihhbgfijcmaaLv
namespace Go.Proofs.Ytmiihhbgfijcmaa.K
open Go Go.RowKit
set_option linter.unusedVariables false
set_option linter.unusedSimpArgs false
set_option maxRecDepth 20000
theorem lawOrder_calls (F : Fz) (w0 : World) (hF : Sub F (hv w0)) (va vb : Value) (es fs : List At) (hr : FRow F va es.length 4 (rowA es)) (hs : FRow F vb fs.length 4 (rowA fs)) (hz : ∀ e ∈ es, e.t.size ≤ 9223372036854775807) (hz2 : ∀ e ∈ fs, e.t.size ≤ 9223372036854775807) :
    Calls Try.prog 6 #[.agg #[va], .agg #[vb]] w0 fun e w' => e = .returned (.bool true) ∧ Below w0.heap.size w0 w' := by
  refine calls 45 Try.func6 rfl rfl rfl ?_
  have h := Hp.start hF
  refine W.seq (W.region rfl ?_)
  refine WL.box h rfl (fun b2 w h => ?_)
  refine WL.box h rfl (fun b3 w h => ?_)
  refine WL.p h Val.as ?_
  refine WL.nil ?_
  refine W.seq (W.region rfl ?_)
  refine WL.p h Val.as ?_
  refine WL.nil ?_
  refine W.seq (W.region rfl ?_)
  refine WL.p h (Val.ldS 0 A37 T37 rfl rfl rfl) ?_
  refine WL.p h Val.mv ?_
  refine WL.call C15 (args := [.agg #[va], .int .i64 1048576]) rfl ((szValue_calls F w h.sub va es hr 1048576 (by decide) hz).mono ?_)
  rintro e w' ⟨r, rfl, hE, hr1, hr2⟩
  have h := h.call hE
  refine ⟨_, rfl, ?_⟩
  refine WL.p h Val.as ?_
  refine WL.nil ?_
  refine W.seq (W.seq (W.region rfl ?_))
  refine WL.p h Val.mv ?_
  refine WL.p h (Val.lt rfl rfl) ?_
  refine WL.dec (fun c => ?_) (fun c => ?_)
  · refine WL.nil ?_
    refine W.condT rfl ?_
    refine W.seq (W.region rfl ?_)
    refine WL.p h Val.as ?_
    refine WL.nil ?_
    refine W.ret ?_
    exact fin1 (v := .bool true) rfl rfl ⟨rfl, h.toExt.below⟩
  refine WL.nil ?_
  refine W.condF rfl ?_
  refine W.skip ?_
  have hB : es.length ≤ 1048576 := by have := (hr2 (by omega)).1; omega
  have hBr : r ≤ 1048576 := by have := (hr2 (by omega)).1; omega
  refine W.seq (W.region rfl ?_)
  refine WL.p h (Val.ldS 1 A37 T37 rfl rfl rfl) ?_
  refine WL.p h Val.mv ?_
  refine WL.call C15 (args := [.agg #[vb], .int .i64 r]) rfl ((szValue_calls F _ h.sub vb fs hs r (by omega) hz2).mono ?_)
  rintro e w' ⟨r', rfl, hE, hr1', hr2'⟩
  have h := h.call hE
  refine ⟨_, rfl, ?_⟩
  refine WL.p h Val.as ?_
  refine WL.nil ?_
  refine W.seq (W.seq (W.region rfl ?_))
  refine WL.p h Val.mv ?_
  refine WL.p h (Val.lt rfl rfl) ?_
  refine WL.dec (fun c' => ?_) (fun c' => ?_)
  · refine WL.nil ?_
    refine W.condT rfl ?_
    refine W.seq (W.region rfl ?_)
    refine WL.p h Val.as ?_
    refine WL.nil ?_
    refine W.ret ?_
    exact fin1 (v := .bool true) rfl rfl ⟨rfl, h.toExt.below⟩
  refine WL.nil ?_
  refine W.condF rfl ?_
  refine W.skip ?_
  have hB2 : fs.length ≤ 1048576 := by have := (hr2' (by omega)).1; omega
  refine W.seq (W.draw (fun w => Hp w0 F F [.box b2 [va] 37, .box b3 [vb] 37] w) [] 6 (by kernel_rfl) rfl rfl ?_)
  have hS := h.drewN 1
  refine WD.take 0 rfl (by kernel_rfl) (fun _ _ _ h => fin_panic h) hS (Val.ldS 0 A37 T37 rfl rfl rfl) ?_
  refine WD.take 2 rfl (by kernel_rfl) (fun _ _ _ h => fin_panic h) hS (Val.ldS 1 A37 T37 rfl rfl rfl) ?_
  refine WD.one 1 rfl (by kernel_rfl) ?_
  refine WL.call C17 (args := [.agg #[va]]) rfl ((toValue_row F _ hS.sub va es hr hB).mono ?_)
  rintro e w' ⟨F1, s1, rfl, hE1, hrow1⟩
  have h := hS.call hE1
  have hS := h.weak hS.ext hE1.ext
  refine ⟨_, rfl, ?_⟩
  refine WL.nil ?_
  refine ⟨hS, ?_⟩
  have hs1 := hs.mono hE1.ext
  refine WD.one 3 rfl (by kernel_rfl) ?_
  refine WL.call C17 (args := [.agg #[vb]]) rfl ((toValue_row F1 _ h.sub vb fs hs1 hB2).mono ?_)
  rintro e w' ⟨F2, s2, rfl, hE2, hrow2⟩
  have h := h.call hE2
  have hS := h.weak hS.ext (hE1.ext.trans hE2.ext)
  refine ⟨_, rfl, ?_⟩
  refine WL.nil ?_
  refine ⟨hS, ?_⟩
  have hrow1 := hrow1.mono hE2.ext
  refine WD.one 4 rfl (by kernel_rfl) ?_
  refine WL.call C20 (args := [.agg #[s1], .agg #[s2]]) rfl ((specOrder_calls F2 _ h.sub s1 s2 es fs hrow1 hrow2 hB hB2).mono ?_)
  rintro e w' ⟨rfl, hE3⟩
  have h := h.call hE3
  have hS := h.weak hS.ext (hE1.ext.trans hE2.ext)
  refine ⟨_, rfl, ?_⟩
  refine WL.nil ?_
  refine ⟨hS, ?_⟩
  refine WD.take 5 rfl (by kernel_rfl) (fun _ _ _ h => fin_panic h) hS Val.as ?_
  refine WD.nil (by kernel_rfl) ?_
  have hr := hr.mono (hE1.ext.trans hE2.ext)
  have hs := hs.mono (hE1.ext.trans hE2.ext)
  refine W.seq (W.region rfl ?_)
  refine WL.p h (Val.ldS 0 A37 T37 rfl rfl rfl) ?_
  refine WL.call C17 (args := [.agg #[va]]) rfl ((toValue_row F2 _ h.sub va es hr hB).mono ?_)
  rintro e w' ⟨F3, x0, rfl, hE4, hx0⟩
  have h := h.call hE4
  refine ⟨_, rfl, ?_⟩
  refine WL.alloc h T42 (fun b7 w h => ?_)
  refine WL.stS 2 h rfl T42 rfl (vs := [x0]) rfl (by obtain ⟨A, c, rfl, _⟩ := hx0.val; simp [Value.oneCell']) rfl rfl (fun w h => ?_)
  refine WL.nil ?_
  have hr := hr.mono hE4.ext
  have hs := hs.mono hE4.ext
  refine W.seq (W.region rfl ?_)
  refine WL.p h (Val.ldS 1 A37 T37 rfl rfl rfl) ?_
  refine WL.call C17 (args := [.agg #[vb]]) rfl ((toValue_row F3 _ h.sub vb fs hs hB2).mono ?_)
  rintro e w' ⟨F4, x1, rfl, hE5, hx1⟩
  have h := h.call hE5
  refine ⟨_, rfl, ?_⟩
  refine WL.alloc h T42 (fun b8 w h => ?_)
  refine WL.stS 3 h rfl T42 rfl (vs := [x1]) rfl (by obtain ⟨A, c, rfl, _⟩ := hx1.val; simp [Value.oneCell']) rfl rfl (fun w h => ?_)
  refine WL.nil ?_
  have hr := hr.mono hE5.ext
  have hs := hs.mono hE5.ext
  have hx0 := hx0.mono hE5.ext
  refine W.seq (W.region rfl ?_)
  refine WL.p h (Val.ldS 2 A42 T42 rfl rfl rfl) ?_
  refine WL.p h (Val.ldS 3 A42 T42 rfl rfl rfl) ?_
  refine WL.call C21 (args := [.agg #[x0], .agg #[x1]]) rfl ((implOrder_calls F4 _ h.sub x0 x1 es fs hx0 hx1).mono ?_)
  rintro e w' ⟨rfl, hE6⟩
  have h := h.call hE6
  refine ⟨_, rfl, ?_⟩
  refine WL.p h Val.as ?_
  refine WL.nil ?_
  refine W.seq (W.seq (W.region rfl ?_))
  refine WL.p h Val.mv ?_
  refine WL.p h Val.mv ?_
  refine WL.p h (Val.ne (a := orderP es fs) (b := orderP es fs) rfl rfl) ?_
  refine WL.nil ?_
  refine W.condF (show Value.bool (decide (_ ≠ _)) = _ by simp) ?_
  refine W.skip ?_
  refine W.seq (W.seq (W.draw (fun w => Hp w0 F F4 [.box b2 [va] 37, .box b3 [vb] 37, .box b7 [x0] 42, .box b8 [x1] 42] w) [] 5 (by kernel_rfl) rfl rfl ?_))
  have hS := h.drewN 1
  refine WD.take 0 rfl (by kernel_rfl) (fun _ _ _ h => fin_panic h) hS (Val.ldS 2 A42 T42 rfl rfl rfl) ?_
  refine WD.take 1 rfl (by kernel_rfl) (fun _ _ _ h => fin_panic h) hS (Val.ldS 0 A37 T37 rfl rfl rfl) ?_
  refine WD.one 2 rfl (by kernel_rfl) ?_
  refine WL.call C17 (args := [.agg #[va]]) rfl ((toValue_row F4 _ hS.sub va es hr hB).mono ?_)
  rintro e w' ⟨F5, s5, rfl, hE, hrow3⟩
  have h := hS.call hE
  have hS := h.weak (hS.ext) hE.ext
  refine ⟨_, rfl, ?_⟩
  refine WL.nil ?_
  refine ⟨hS, ?_⟩
  refine WD.one 3 rfl (by kernel_rfl) ?_
  refine WL.call C19 (args := [.agg #[x0], .agg #[s5]]) rfl ((eqValue_calls F5 _ h.sub x0 s5 es es (hx0.mono hE.ext) hrow3).mono ?_)
  rintro e w' ⟨rfl, hE⟩
  have hS := hS.below_step hE.below
  refine ⟨_, rfl, ?_⟩
  refine WL.nil ?_
  refine ⟨hS, ?_⟩
  refine WD.take 4 rfl (by kernel_rfl) (fun _ _ _ h => fin_panic h) hS (Val.not rfl) ?_
  refine WD.nil (by kernel_rfl) ?_
  have h := hS
  refine W.condF (show Value.bool (!decide (_ = _)) = _ by simp) ?_
  refine W.skip ?_
  refine W.seq (W.seq (W.draw (fun w => Hp w0 F F4 [.box b2 [va] 37, .box b3 [vb] 37, .box b7 [x0] 42, .box b8 [x1] 42] w) [] 5 (by kernel_rfl) rfl rfl ?_))
  have hS := h.drewN 1
  refine WD.take 0 rfl (by kernel_rfl) (fun _ _ _ h => fin_panic h) hS (Val.ldS 3 A42 T42 rfl rfl rfl) ?_
  refine WD.take 1 rfl (by kernel_rfl) (fun _ _ _ h => fin_panic h) hS (Val.ldS 1 A37 T37 rfl rfl rfl) ?_
  refine WD.one 2 rfl (by kernel_rfl) ?_
  refine WL.call C17 (args := [.agg #[vb]]) rfl ((toValue_row F4 _ hS.sub vb fs hs hB2).mono ?_)
  rintro e w' ⟨F6, s6, rfl, hE, hrow3⟩
  have h := hS.call hE
  have hS := h.weak (hS.ext) hE.ext
  refine ⟨_, rfl, ?_⟩
  refine WL.nil ?_
  refine ⟨hS, ?_⟩
  refine WD.one 3 rfl (by kernel_rfl) ?_
  refine WL.call C19 (args := [.agg #[x1], .agg #[s6]]) rfl ((eqValue_calls F6 _ h.sub x1 s6 fs fs (hx1.mono hE.ext) hrow3).mono ?_)
  rintro e w' ⟨rfl, hE⟩
  have hS := hS.below_step hE.below
  refine ⟨_, rfl, ?_⟩
  refine WL.nil ?_
  refine ⟨hS, ?_⟩
  refine WD.take 4 rfl (by kernel_rfl) (fun _ _ _ h => fin_panic h) hS (Val.not rfl) ?_
  refine WD.nil (by kernel_rfl) ?_
  have h := hS
  refine W.condF (show Value.bool (!decide (_ = _)) = _ by simp) ?_
  refine W.skip ?_
  refine W.seq (W.region rfl ?_)
  refine WL.p h Val.as ?_
  refine WL.nil ?_
  refine W.ret ?_
  exact fin1 (v := .bool true) rfl rfl ⟨rfl, h.below⟩
end Go.Proofs.Ytmiihhbgfijcmaa.K

