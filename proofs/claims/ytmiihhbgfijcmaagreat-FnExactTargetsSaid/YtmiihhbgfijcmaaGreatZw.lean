/- Targets: the walk of the law. -/
import Derived.Test.YtmiihhbgfijcmaaGreatZv
namespace Go.Proofs.YtmiihhbgfijcmaaGreat.K
open Go Go.RowKit
set_option linter.unusedVariables false
set_option linter.unusedSimpArgs false
set_option maxRecDepth 20000
theorem C4q : CF Tryz.prog 4 := ⟨_, Tryz.func4, rfl, rfl⟩
theorem C5q : CF Tryz.prog 5 := ⟨_, Tryz.func5, rfl, rfl⟩
theorem C6q : CF Tryz.prog 6 := ⟨_, Tryz.func6, rfl, rfl⟩
theorem C7q : CF Tryz.prog 7 := ⟨_, Tryz.func7, rfl, rfl⟩
theorem C9q : CF Tryz.prog 9 := ⟨_, Tryz.func9, rfl, rfl⟩
theorem C10q : CF Tryz.prog 10 := ⟨_, Tryz.func10, rfl, rfl⟩
theorem C11q : CF Tryz.prog 11 := ⟨_, Tryz.func11, rfl, rfl⟩
theorem C12q : CF Tryz.prog 12 := ⟨_, Tryz.func12, rfl, rfl⟩
/-- A copy, fixed. -/
theorem toTold_fix (F : Fz) (w0 : World) (hF : Sub F (hv w0)) (v : Value) (ds : List Td) (xs : List Value) (hr : FRow F v ds.length 2 xs) (hd : DRow F ds xs) (hok : DOk ds) :
    Calls Tryz.prog 6 #[v] w0 fun e w' => ∃ (F' : Fz) (u : Value) (ys : List Value), e = .returned u ∧ Ext F w0 F' w' ∧ FRow F' u ds.length 2 ys ∧ DRow F' ds ys := by
  refine (toToldS_calls F w0 hF v ds xs hr hd hok.len hok.lens).mono ?_
  rintro e w' ⟨b, ps, rfl, hp, hps⟩
  obtain ⟨F', h1, h2, h3⟩ := Hp.freezeL [] (xL b ps) F hp
  obtain ⟨h4, h5⟩ := drow_of h3 hps hok.len hok.lens
  exact ⟨F', _, _, rfl, h2.toExt, h4, h5⟩
theorem eqPlan_same (F : Fz) (w0 : World) (hF : Sub F (hv w0)) (p : Pl) (v u : Value) (xs ys : List Value) (hr : FRow F v p.gs.length 5 xs ∧ TRow F p.gs xs) (hs : FRow F u p.gs.length 5 ys ∧ TRow F p.gs ys) : Calls Tryz.prog 8 #[.agg #[.int .i64 p.code, .int .i64 p.at', v], .agg #[.int .i64 p.code, .int .i64 p.at', u]] w0 fun e w' => e = .returned (.bool true) ∧ Ext F w0 F w' := by
  refine (eqPlan_calls F w0 hF p p v u xs ys hr.1 hr.2 hs.1 hs.2).mono ?_
  rintro e w' ⟨b, rfl, hb, hE⟩
  exact ⟨by rw [hb.2 rfl], hE⟩
theorem prow_of {F : Fz} {v : Value} {ts : List Tv} {p : Pl} (h : ∀ c ∈ tsL v ts, c.fixed F) (hg : ts.map (·.1) = p.gs) : FRow F v p.gs.length 5 (ts.flatMap tcs) ∧ TRow F p.gs (ts.flatMap tcs) := by
  have := trow_of h
  rw [hg] at this
  have hl : p.gs.length = ts.length := by rw [← hg, List.length_map]
  rw [hl]
  exact this
theorem markTold_at {w0 w : World} {F0 F : Fz} {A B : List Ch} {b : Nat} {ps : List (Td × Nat)} {ds : List Td} (h : Hp w0 F0 F (A ++ (xL b ps ++ B)) w) (hps : ps.map (·.1) = ds) (hok : DOk ds) :
    Calls Tryz.prog 10 #[.slice (some ⟨b, 0, none⟩) ds.length ds.length, .int .i64 1] w fun e w' => ∃ r : Int, e = .returned (.int .i64 r) ∧ 0 ≤ r ∧ Hp w0 F0 F (A ++ B) w' := by
  have hpl : ds.length = ps.length := by rw [← hps, List.length_map]
  have h1 : Hp w0 F0 F (xL b ps ++ (A ++ B)) w := h.perm (List.perm_append_comm_assoc _ _ _)
  obtain ⟨F1, hs1, hA, hback⟩ := h1.lend
  rw [hpl]
  refine (markToldS_calls hA (by rw [← hpl]; exact hok.len) (fun p hp => hok.lens p.1 (by rw [← hps]; exact List.mem_map.2 ⟨p, hp, rfl⟩))).mono ?_
  rintro e w' ⟨r, h2, h3, L', h4⟩
  exact ⟨r, h2, h3, (hback _ _ h4).right⟩
theorem markPlan_at {w0 w : World} {F0 F : Fz} {A : List Ch} {v : Value} {ts : List Tv} {k a b : Int} (h : Hp w0 F0 F (A ++ tsL v ts) w) (hk : 0 ≤ k ∧ k ≤ 1099511627776) (hn : ts.length ≤ 1048576) (hone : ∀ t ∈ ts, OneT t) :
    Calls Tryz.prog 11 #[.agg #[.int .i64 a, .int .i64 b, v], .int .i64 k] w fun e w' => e = .returned (.int .i64 (k + totT ts)) ∧ Hp w0 F0 F (A ++ tsL v (mkTs k ts)) w' := by
  have h1 : Hp w0 F0 F (tsL v ts ++ A) w := h.perm List.perm_append_comm
  obtain ⟨F1, hs1, hA, hback⟩ := h1.lend
  refine (markPlan_calls hA hk hn hone).mono ?_
  rintro e w' ⟨h2, h3⟩
  exact ⟨h2, (hback _ _ h3).perm List.perm_append_comm⟩
theorem heldPlan_at (F : Fz) (w0 : World) (hF : Sub F (hv w0)) {v : Value} {ts : List Tv} {k a b : Int} (h : ∀ c ∈ tsL v (mkTs k ts), c.fixed F) (hk : 0 ≤ k ∧ k ≤ 1099511627776) (hn : ts.length ≤ 1048576) (hone : ∀ t ∈ ts, OneT t) :
    Calls Tryz.prog 12 #[.agg #[.int .i64 a, .int .i64 b, v], .int .i64 k] w0 fun e w' => e = .returned (.int .i64 (k + totT ts)) ∧ Ext F w0 F w' := by
  obtain ⟨h1, h2⟩ := trow_of h
  rw [mkTs_len] at h1
  exact heldPlan_calls F w0 hF v ts k a b h1 h2 hk hn hone
def plB (p : Pl) (v : Value) : List Value := [.int .i64 p.code, .int .i64 p.at', v]
set_option maxHeartbeats 8000000 in
theorem lawTargets_calls (F : Fz) (w0 : World) (hF : Sub F (hv w0)) (va : Value) (ds : List Td) (xs : List Value) (hr : FRow F va ds.length 2 xs) (hd : DRow F ds xs) (htxt : ∀ d ∈ ds, ∀ a ∈ d.2, a.t.size ≤ 9223372036854775807) (hnum : ∀ d ∈ ds, ∀ a ∈ d.2, (Lit.int .i64 a.n).wf = true) (hf : ∀ d ∈ ds, d.1.size ≤ 9223372036854775807) :
    Calls Tryz.prog 3 #[va] w0 fun e w' => e = .returned (.bool true) ∧ Below w0.heap.size w0 w' := by
  refine calls 69 Tryz.func3 rfl rfl rfl ?_
  have h := Hp.start hF
  refine W.seq (W.region rfl ?_)
  refine WL.p h Val.as ?_
  refine WL.nil ?_
  refine W.seq (W.region rfl ?_)
  refine WL.p h Val.as ?_
  refine WL.nil ?_
  refine W.seq (W.region rfl ?_)
  refine WL.p h Val.mv ?_
  refine WL.p h Val.mv ?_
  refine WL.call C4q (args := [va, .int .i64 1048576]) rfl ((szToldS_calls F w0 h.sub va ds xs hr hd htxt hf).mono ?_)
  rintro e w ⟨r, rfl, hE, hsz⟩
  have h := h.call hE
  refine ⟨_, rfl, ?_⟩
  refine WL.p h Val.as ?_
  refine WL.nil ?_
  refine W.seq (W.seq (W.region rfl ?_))
  refine WL.p h Val.mv ?_
  refine WL.p h (Val.lt (a := r) (b := 0) rfl rfl) ?_
  refine WL.dec (fun c => ?_) (fun c => ?_)
  · refine WL.nil ?_
    refine W.condT rfl ?_
    refine W.seq (W.region rfl ?_)
    refine WL.p h Val.as ?_
    refine WL.nil ?_
    refine W.ret ?_
    exact fin1 (v := .bool true) rfl rfl ⟨rfl, h.toExt.below⟩
  have hok : DOk ds := ⟨(hsz (by omega)).1, (hsz (by omega)).2, htxt, hnum⟩
  obtain ⟨p, hpd⟩ : ∃ p, planP ds = p := ⟨_, rfl⟩
  have hImp : ∀ (F : Fz) (w : World), Sub F (hv w) → ∀ v xs, FRow F v ds.length 2 xs → DRow F ds xs → Calls Tryz.prog 7 #[v] w (PPl F w p) := fun F w hF v xs hr hd => by
    rw [← hpd]; exact implTargets_calls F w hF v ds xs hr hd hok
  have hSpc : ∀ (F : Fz) (w : World), Sub F (hv w) → ∀ v xs, FRow F v ds.length 2 xs → DRow F ds xs → Calls Tryz.prog 5 #[v] w (PSp F w p) := fun F w hF v xs hr hd => by
    rw [← hpd]; exact specTargets_calls F w hF v ds xs hr hd hok
  refine WL.nil ?_
  refine W.condF rfl ?_
  refine W.skip ?_
  refine W.seq (W.region rfl ?_)
  refine WL.p h Val.mv ?_
  refine WL.call C6q (args := [va]) rfl ((toTold_fix F _ h.sub va ds xs hr hd hok).mono ?_)
  rintro e w ⟨F1, u1, ys1, rfl, hE1, hr1, hd1⟩
  have h := h.call hE1
  refine ⟨_, rfl, ?_⟩
  refine WL.call C5q (args := [u1]) rfl ((hSpc F1 _ h.sub u1 ys1 hr1 hd1).mono ?_)
  rintro e w ⟨F2, vW, yW, rfl, hE2, hrW, hTW⟩
  have h := h.call hE2
  have hr := hr.mono (hE1.ext.trans hE2.ext)
  have hd := hd.mono (hE1.ext.trans hE2.ext)
  refine ⟨_, rfl, ?_⟩
  refine WL.alloc h T26z (fun b4 w h => ?_)
  refine WL.stS 0 h rfl T26z rfl (vs := plB p vW) rfl (three_one hrW.one) rfl rfl (fun w h => ?_)
  refine WL.nil ?_
  refine W.seq (W.region rfl ?_)
  refine WL.p h Val.mv ?_
  refine WL.call C6q (args := [va]) rfl ((toToldS_calls F2 _ h.sub va ds xs hr hd hok.len hok.lens).mono ?_)
  rintro e w ⟨xb, ps, rfl, hp, hps⟩
  have h : Hp w0 F F2 ([.box b4 (plB p vW) 26] ++ xL xb ps) w := h.takeL hp
  refine ⟨_, rfl, ?_⟩
  refine WL.p h Val.as ?_
  refine WL.nil ?_
  have hx0 := drow_of (fun c hc => h.fixAll c (List.mem_append_right _ hc)) hps hok.len hok.lens
  refine W.seq (W.region rfl ?_)
  refine WL.p h Val.mv ?_
  refine WL.call C7q (args := [.slice (some ⟨xb, 0, none⟩) ds.length ds.length]) rfl ((hImp (hv w) w (Sub.refl _) _ _ hx0.1 hx0.2).mono ?_)
  rintro e w ⟨g0, ts, rfl, hp, hgs, hone, htl⟩
  have h := h.takeL hp
  have hg1 : g0.oneCell' = true := hp.own1 0 rfl
  refine ⟨_, rfl, ?_⟩
  refine WL.alloc h T26z (fun b6 w h => ?_)
  have h := Hp.perm h List.perm_append_comm
  refine WL.stS 0 h rfl T26z rfl (vs := plB p g0) rfl (three_one hg1) rfl rfl (fun w h => ?_)
  have h : Hp w0 F F2 ([.box b6 (plB p g0) 26, .box b4 (plB p vW) 26] ++ (xL xb ps ++ tsL g0 ts)) w := h
  refine WL.nil ?_
  refine W.seq (W.seq (W.region rfl ?_))
  refine WL.p h (Val.ldS 0 A26z T26z rfl rfl rfl) ?_
  refine WL.p h (Val.ldS 1 A26z T26z rfl rfl rfl) ?_
  refine WL.call C8z (args := [.agg (plB p g0).toArray, .agg (plB p vW).toArray]) rfl ((eqPlan_same (hv _) _ (Sub.refl _) p g0 vW _ yW (prow_of (fun c hc => h.fixAll c (List.mem_append_right _ (List.mem_append_right _ hc))) hgs) ⟨hrW.mono h.sub, hTW.mono h.sub⟩).mono ?_)
  rintro e w ⟨rfl, hE⟩
  have h := h.below_step hE.below
  refine ⟨_, rfl, ?_⟩
  refine WL.p h (Val.not rfl) ?_
  refine WL.nil ?_
  refine W.condF rfl ?_
  refine W.skip ?_
  have hx1 := drow_of (fun c hc => h.fixAll c (List.mem_append_right _ (List.mem_append_left _ hc))) hps hok.len hok.lens
  refine W.seq (W.seq (W.region rfl ?_))
  refine WL.p h Val.mv ?_
  refine WL.p h Val.mv ?_
  refine WL.call C6q (args := [va]) rfl ((toTold_fix (hv _) _ (Sub.refl _) va ds xs (hr.mono h.sub) (hd.mono h.sub) hok).mono ?_)
  rintro e w ⟨F3, u3, ys3, rfl, hE3, hr3, hd3⟩
  have h := h.below_step hE3.below
  refine ⟨_, rfl, ?_⟩
  refine WL.call C9q (args := [.slice (some ⟨xb, 0, none⟩) ds.length ds.length, u3]) rfl ((eqToldS_calls F3 _ hE3.sub _ u3 ds _ ys3 (hx1.1.mono hE3.ext) (hx1.2.mono hE3.ext) hr3 hd3).mono ?_)
  rintro e w ⟨rfl, hE⟩
  have h := h.below_step hE.below
  refine ⟨_, rfl, ?_⟩
  refine WL.p h (Val.not rfl) ?_
  refine WL.nil ?_
  refine W.condF rfl ?_
  refine W.skip ?_
  refine W.seq (W.region rfl ?_)
  refine WL.p h Val.as ?_
  refine WL.nil ?_
  refine W.seq (W.region rfl ?_)
  refine WL.p h Val.mv ?_
  refine WL.p h Val.mv ?_
  refine WL.call C10q (args := [.slice (some ⟨xb, 0, none⟩) ds.length ds.length, .int .i64 1]) rfl ((markTold_at h hps hok).mono ?_)
  rintro e w ⟨r1, rfl, hr1', h⟩
  refine ⟨_, rfl, ?_⟩
  refine WL.p h Val.as ?_
  refine WL.nil ?_
  refine W.seq (W.seq (W.region rfl ?_))
  refine WL.p h Val.mv ?_
  refine WL.p h (Val.lt (a := r1) (b := 0) rfl rfl) ?_
  refine WL.dec (fun c3 => ?_) (fun c3 => ?_)
  · omega
  refine WL.p h Val.mv ?_
  refine WL.p h (Val.ldS 0 A26z T26z rfl rfl rfl) ?_
  refine WL.p h (Val.ldS 1 A26z T26z rfl rfl rfl) ?_
  refine WL.call C8z (args := [.agg (plB p g0).toArray, .agg (plB p vW).toArray]) rfl ((eqPlan_same (hv _) _ (Sub.refl _) p g0 vW _ yW (prow_of (fun c hc => h.fixAll c (List.mem_append_right _ hc)) hgs) ⟨hrW.mono h.sub, hTW.mono h.sub⟩).mono ?_)
  rintro e w ⟨rfl, hE⟩
  have h := h.below_step hE.below
  refine ⟨_, rfl, ?_⟩
  refine WL.p h (Val.not rfl) ?_
  refine WL.p h (Val.pick rfl) ?_
  refine WL.nil ?_
  refine W.condF rfl ?_
  refine W.skip ?_
  refine W.seq (W.region rfl ?_)
  refine WL.p h Val.as ?_
  refine WL.nil ?_
  have hb := totT_bd ts hone
  refine W.seq (W.region rfl ?_)
  refine WL.p h (Val.ldS 0 A26z T26z rfl rfl rfl) ?_
  refine WL.p h Val.mv ?_
  refine WL.call C11q (args := [.agg (plB p g0).toArray, .int .i64 1]) rfl ((markPlan_at h (by omega) htl hone).mono ?_)
  rintro e w ⟨rfl, h⟩
  refine ⟨_, rfl, ?_⟩
  refine WL.p h Val.as ?_
  refine WL.nil ?_
  refine W.seq (W.region rfl ?_)
  refine WL.p h Val.as ?_
  refine WL.nil ?_
  refine W.seq (W.region rfl ?_)
  refine WL.p h (Val.ldS 0 A26z T26z rfl rfl rfl) ?_
  refine WL.p h Val.mv ?_
  refine WL.call C12q (args := [.agg (plB p g0).toArray, .int .i64 1]) rfl ((heldPlan_at (hv _) _ (Sub.refl _) (fun c hc => h.fixAll c (List.mem_append_right _ hc)) (by omega) htl hone).mono ?_)
  rintro e w ⟨rfl, hE⟩
  have h := h.below_step hE.below
  refine ⟨_, rfl, ?_⟩
  refine WL.p h Val.as ?_
  refine WL.nil ?_
  refine W.seq (W.seq (W.region rfl ?_))
  refine WL.p h Val.mv ?_
  refine WL.p h (Val.lt (a := 1 + totT ts) (b := 0) rfl rfl) ?_
  refine WL.dec (fun c4 => ?_) (fun c4 => ?_)
  · omega
  refine WL.nil ?_
  refine W.condF rfl ?_
  refine W.skip ?_
  refine W.seq (W.seq (W.region rfl ?_))
  refine WL.p h Val.mv ?_
  refine WL.p h Val.mv ?_
  refine WL.p h (Val.ne (a := 1 + totT ts) (b := 1 + totT ts) rfl rfl) ?_
  refine WL.nil ?_
  refine W.condF (show Value.bool (decide (_ ≠ _)) = _ by simp) ?_
  refine W.skip ?_
  refine W.seq (W.region rfl ?_)
  refine WL.p h Val.mv ?_
  refine WL.call C6q (args := [va]) rfl ((toTold_fix (hv _) _ (Sub.refl _) va ds xs (hr.mono h.sub) (hd.mono h.sub) hok).mono ?_)
  rintro e w ⟨F4, u4, ys4, rfl, hE4, hr4, hd4⟩
  have h := h.below_step hE4.below
  refine ⟨_, rfl, ?_⟩
  refine WL.call C7q (args := [u4]) rfl ((hImp F4 w hE4.sub u4 ys4 hr4 hd4).mono ?_)
  rintro e w ⟨h0, ts2, rfl, hp, hgs2, hone2, htl2⟩
  have h := h.takeL hp
  have hh1 : h0.oneCell' = true := hp.own1 0 rfl
  refine ⟨_, rfl, ?_⟩
  refine WL.alloc h T26z (fun b10 w h => ?_)
  have h := Hp.perm h List.perm_append_comm
  refine WL.stS 0 h rfl T26z rfl (vs := plB p h0) rfl (three_one hh1) rfl rfl (fun w h => ?_)
  have h : Hp w0 F F2 ([.box b10 (plB p h0) 26, .box b6 (plB p g0) 26, .box b4 (plB p vW) 26] ++ (tsL g0 (mkTs 1 ts) ++ tsL h0 ts2)) w := h
  refine WL.nil ?_
  refine W.seq (W.seq (W.region rfl ?_))
  refine WL.p h (Val.ldS 0 A26z T26z rfl rfl rfl) ?_
  refine WL.p h (Val.ldS 2 A26z T26z rfl rfl rfl) ?_
  refine WL.call C8z (args := [.agg (plB p h0).toArray, .agg (plB p vW).toArray]) rfl ((eqPlan_same (hv _) _ (Sub.refl _) p h0 vW _ yW (prow_of (fun c hc => h.fixAll c (List.mem_append_right _ (List.mem_append_right _ hc))) hgs2) ⟨hrW.mono h.sub, hTW.mono h.sub⟩).mono ?_)
  rintro e w ⟨rfl, hE⟩
  have h := h.below_step hE.below
  refine ⟨_, rfl, ?_⟩
  refine WL.p h (Val.not rfl) ?_
  refine WL.nil ?_
  refine W.condF rfl ?_
  refine W.skip ?_
  refine W.seq (W.region rfl ?_)
  refine WL.p h Val.as ?_
  refine WL.nil ?_
  refine W.seq (W.region rfl ?_)
  refine WL.p h (Val.ldS 1 A26z T26z rfl rfl rfl) ?_
  refine WL.p h Val.mv ?_
  refine WL.call C12q (args := [.agg (plB p g0).toArray, .int .i64 1]) rfl ((heldPlan_at (hv _) _ (Sub.refl _) (fun c hc => h.fixAll c (List.mem_append_right _ (List.mem_append_left _ hc))) (by omega) htl hone).mono ?_)
  rintro e w ⟨rfl, hE⟩
  have h := h.below_step hE.below
  refine ⟨_, rfl, ?_⟩
  refine WL.p h Val.as ?_
  refine WL.nil ?_
  refine W.seq (W.seq (W.region rfl ?_))
  refine WL.p h Val.mv ?_
  refine WL.p h (Val.lt (a := 1 + totT ts) (b := 0) rfl rfl) ?_
  refine WL.dec (fun c5 => ?_) (fun c5 => ?_)
  · omega
  refine WL.nil ?_
  refine W.condF rfl ?_
  refine W.skip ?_
  refine W.seq (W.seq (W.region rfl ?_))
  refine WL.p h Val.mv ?_
  refine WL.p h Val.mv ?_
  refine WL.p h (Val.ne (a := 1 + totT ts) (b := 1 + totT ts) rfl rfl) ?_
  refine WL.nil ?_
  refine W.condF (show Value.bool (decide (_ ≠ _)) = _ by simp) ?_
  refine W.skip ?_
  refine W.seq (W.region rfl ?_)
  refine WL.p h Val.as ?_
  refine WL.nil ?_
  refine W.ret ?_
  exact fin1 (v := .bool true) rfl rfl ⟨rfl, h.below⟩
end Go.Proofs.YtmiihhbgfijcmaaGreat.K

