/- Put together from Zi, Zj, Zk, Zl. -/
import Derived.Test.YtmiihhbgfijcmaaGreatZh
import Derived.Test.YtmiihhbgfijcmaaGreatLw
/- Targets: the laws' helpers on lists of texts. -/
namespace Go.Proofs.YtmiihhbgfijcmaaGreat.K
open Go Go.RowKit
set_option linter.unusedVariables false
theorem rowSf_eq : ∀ (ss : List ByteArray), rowSf ss = rowS ss
  | [] => rfl
  | s :: ss => by
    have := rowSf_eq ss
    simp only [rowSf, rowS, List.flatMap_cons, List.map_cons, sc] at this ⊢
    rw [this]; rfl
theorem eqStr_calls (F : Fz) (w0 : World) (hF : Sub F (hv w0)) (v u : Value) (es fs : List ByteArray) (hr : FRow F v es.length 1 (rowS es)) (hs : FRow F u fs.length 1 (rowS fs)) :
    Calls Tryz.prog 80 #[v, u] w0 fun e w' => e = .returned (.bool (decide (es = fs))) ∧ Ext F w0 F w' :=
  eqStringS_calls F w0 hF v u es fs (by rw [rowSf_eq]; exact hr) (by rw [rowSf_eq]; exact hs)
end Go.Proofs.YtmiihhbgfijcmaaGreat.K


/- Targets: two targets compared, walked. -/
namespace Go.Proofs.YtmiihhbgfijcmaaGreat.K
open Go Go.RowKit
set_option linter.unusedVariables false
set_option linter.unusedSimpArgs false
set_option maxRecDepth 20000
theorem C52z : CF Tryz.prog 52 := ⟨_, Tryz.func52, rfl, rfl⟩
set_option maxHeartbeats 1000000 in
theorem eqTarget_calls (F : Fz) (w0 : World) (hF : Sub F (hv w0)) (g k : Tg) (si so ti to : Value) (hi : FRow F si g.ins.length 1 (rowS g.ins)) (ho : FRow F so g.outs.length 1 (rowS g.outs)) (hi2 : FRow F ti k.ins.length 1 (rowS k.ins)) (ho2 : FRow F to k.outs.length 1 (rowS k.outs)) : Calls Tryz.prog 52 #[.agg #[.string g.name, .string g.tool, .string g.arg, si, so], .agg #[.string k.name, .string k.tool, .string k.arg, ti, to]] w0 (PBz F w0 (g = k)) := by
  refine calls 32 Tryz.func52 rfl rfl rfl ?_
  have h := Hp.start hF
  refine W.seq (W.region rfl ?_)
  refine WL.box h rfl (fun b2 w h => ?_)
  refine WL.box h rfl (fun b3 w h => ?_)
  refine WL.p h Val.as ?_
  refine WL.nil ?_
  refine W.seq (W.seq (W.region rfl ?_))
  refine WL.p h (Val.fa O49_0z rfl) ?_
  refine WL.p h (Val.ld 0 A9 rfl rfl rfl) ?_
  refine WL.p h (Val.fa O49_0z rfl) ?_
  refine WL.p h (Val.ld 1 A9 rfl rfl rfl) ?_
  refine WL.p h (Val.sNe (a := g.name) (b := k.name) rfl rfl) ?_
  refine WL.dec (fun c0 => ?_) (fun c0 => ?_)
  · refine WL.nil ?_
    refine W.condT rfl ?_
    refine W.seq (W.region rfl ?_)
    refine WL.p h Val.as ?_
    refine WL.nil ?_
    refine W.ret ?_
    exact fin1 (v := .bool false) rfl rfl (PBz.no h.toExt (fun e => c0 (by rw [e])))
  refine WL.nil ?_
  refine W.condF rfl ?_
  refine W.skip ?_
  refine W.seq (W.seq (W.region rfl ?_))
  refine WL.p h (Val.fa O49_1z rfl) ?_
  refine WL.p h (Val.ld 0 A9 rfl rfl rfl) ?_
  refine WL.p h (Val.fa O49_1z rfl) ?_
  refine WL.p h (Val.ld 1 A9 rfl rfl rfl) ?_
  refine WL.p h (Val.sNe (a := g.tool) (b := k.tool) rfl rfl) ?_
  refine WL.dec (fun c1 => ?_) (fun c1 => ?_)
  · refine WL.nil ?_
    refine W.condT rfl ?_
    refine W.seq (W.region rfl ?_)
    refine WL.p h Val.as ?_
    refine WL.nil ?_
    refine W.ret ?_
    exact fin1 (v := .bool false) rfl rfl (PBz.no h.toExt (fun e => c1 (by rw [e])))
  refine WL.nil ?_
  refine W.condF rfl ?_
  refine W.skip ?_
  refine W.seq (W.seq (W.region rfl ?_))
  refine WL.p h (Val.fa O49_2z rfl) ?_
  refine WL.p h (Val.ld 0 A9 rfl rfl rfl) ?_
  refine WL.p h (Val.fa O49_2z rfl) ?_
  refine WL.p h (Val.ld 1 A9 rfl rfl rfl) ?_
  refine WL.p h (Val.sNe (a := g.arg) (b := k.arg) rfl rfl) ?_
  refine WL.dec (fun c2 => ?_) (fun c2 => ?_)
  · refine WL.nil ?_
    refine W.condT rfl ?_
    refine W.seq (W.region rfl ?_)
    refine WL.p h Val.as ?_
    refine WL.nil ?_
    refine W.ret ?_
    exact fin1 (v := .bool false) rfl rfl (PBz.no h.toExt (fun e => c2 (by rw [e])))
  refine WL.nil ?_
  refine W.condF rfl ?_
  refine W.skip ?_
  refine W.seq (W.seq (W.region rfl ?_))
  refine WL.p h (Val.fa O49_3z rfl) ?_
  refine WL.p h (Val.ld 0 A24 rfl rfl rfl) ?_
  refine WL.p h (Val.fa O49_3z rfl) ?_
  refine WL.p h (Val.ld 1 A24 rfl rfl rfl) ?_
  refine WL.call C38 (args := [si, ti]) rfl ((eqStr_calls F _ h.sub si ti g.ins k.ins hi hi2).mono ?_)
  rintro e w' ⟨rfl, hE⟩
  have h := h.call hE
  refine ⟨_, rfl, ?_⟩
  refine WL.p h (Val.not rfl) ?_
  by_cases c3 : g.ins = k.ins
  rotate_left
  · refine WL.nil ?_
    refine W.condT (congrArg (fun b => Value.bool (!b)) (decide_eq_false c3)) ?_
    refine W.seq (W.region rfl ?_)
    refine WL.p h Val.as ?_
    refine WL.nil ?_
    refine W.ret ?_
    exact fin1 (v := .bool false) rfl rfl (PBz.no h.toExt (fun e => c3 (by rw [e])))
  refine WL.nil ?_
  refine W.condF (congrArg (fun b => Value.bool (!b)) (decide_eq_true c3)) ?_
  refine W.skip ?_
  refine W.seq (W.seq (W.region rfl ?_))
  refine WL.p h (Val.fa O49_4z rfl) ?_
  refine WL.p h (Val.ld 0 A24 rfl rfl rfl) ?_
  refine WL.p h (Val.fa O49_4z rfl) ?_
  refine WL.p h (Val.ld 1 A24 rfl rfl rfl) ?_
  refine WL.call C38 (args := [so, to]) rfl ((eqStr_calls F _ h.sub so to g.outs k.outs ho ho2).mono ?_)
  rintro e w' ⟨rfl, hE⟩
  have h := h.call hE
  refine ⟨_, rfl, ?_⟩
  refine WL.p h (Val.not rfl) ?_
  by_cases c4 : g.outs = k.outs
  rotate_left
  · refine WL.nil ?_
    refine W.condT (congrArg (fun b => Value.bool (!b)) (decide_eq_false c4)) ?_
    refine W.seq (W.region rfl ?_)
    refine WL.p h Val.as ?_
    refine WL.nil ?_
    refine W.ret ?_
    exact fin1 (v := .bool false) rfl rfl (PBz.no h.toExt (fun e => c4 (by rw [e])))
  refine WL.nil ?_
  refine W.condF (congrArg (fun b => Value.bool (!b)) (decide_eq_true c4)) ?_
  refine W.skip ?_
  refine W.seq (W.region rfl ?_)
  refine WL.p h Val.as ?_
  refine WL.nil ?_
  refine W.ret ?_
  exact fin1 (v := .bool true) rfl rfl (PBz.yes h.toExt (by cases g; cases k; simp at c0 c1 c2 c3 c4; simp [c0, c1, c2, c3, c4]))
end Go.Proofs.YtmiihhbgfijcmaaGreat.K


/- Targets: lists of targets compared, walked. -/
namespace Go.Proofs.YtmiihhbgfijcmaaGreat.K
open Go Go.RowKit
set_option linter.unusedVariables false
set_option linter.unusedSimpArgs false
set_option maxRecDepth 20000
theorem C28z : CF Tryz.prog 28 := ⟨_, Tryz.func28, rfl, rfl⟩
/-- The cells of a target. -/
def tgc (g : Tg) (si so : Value) : List Value := [.string g.name, .string g.tool, .string g.arg, si, so]
structure TRow (F : Fz) (gs : List Tg) (xs : List Value) : Prop where
  len : xs.length = gs.length * 5
  get : ∀ (i : Nat) g, gs[i]? = some g → ∃ si so, (∀ j u, (tgc g si so)[j]? = some u → xs[i * 5 + j]? = some u) ∧ FRow F si g.ins.length 1 (rowS g.ins) ∧ FRow F so g.outs.length 1 (rowS g.outs)
theorem TRow.mono {F G : Fz} {gs : List Tg} {xs : List Value} (h : TRow F gs xs) (hs : Sub F G) : TRow G gs xs := ⟨h.len, fun i g hg => by
  obtain ⟨si, so, h1, h2, h3⟩ := h.get i g hg
  exact ⟨si, so, h1, h2.mono hs, h3.mono hs⟩⟩
set_option maxHeartbeats 1000000 in
theorem eqTargetS_calls (F : Fz) (w0 : World) (hF : Sub F (hv w0)) (v u : Value) (gs ks : List Tg) (xs ys : List Value) (hr : FRow F v gs.length 5 xs) (hx : TRow F gs xs) (hs : FRow F u ks.length 5 ys) (hy : TRow F ks ys) : Calls Tryz.prog 28 #[v, u] w0 (PBz F w0 (gs = ks)) := by
  refine calls 27 Tryz.func28 rfl rfl rfl ?_
  have h := Hp.start hF
  have hmax := hr.max
  refine W.seq (W.region rfl ?_)
  refine WL.p h Val.as ?_
  refine WL.nil ?_
  refine W.seq (W.seq (W.region rfl ?_))
  refine WL.p h Val.mv ?_
  refine WL.p h (Val.len Tryz.underlying24 rfl hr.val) ?_
  refine WL.p h Val.mv ?_
  refine WL.p h (Val.len Tryz.underlying24 rfl hs.val) ?_
  refine WL.p h (Val.ne (a := (gs.length : Int)) (b := (ks.length : Int)) rfl rfl) ?_
  refine WL.dec (fun c => ?_) (fun c => ?_)
  · refine WL.nil ?_
    refine W.condT rfl ?_
    refine W.seq (W.region rfl ?_)
    refine WL.p h Val.as ?_
    refine WL.nil ?_
    refine W.ret ?_
    exact fin1 (v := .bool false) rfl rfl (PBz.no h.toExt (fun e => c (by rw [e])))
  have hl : gs.length = ks.length := by omega
  refine WL.nil ?_
  refine W.condF rfl ?_
  refine W.skip ?_
  refine W.seq (W.seq (W.region rfl ?_))
  refine WL.p h Val.as ?_
  refine WL.nil ?_
  refine W.block ?_
  refine W.loop (fun m R w => ∃ j, m + j = gs.length ∧ Hp w0 F F [] w ∧ (∀ i, i < j → gs[i]? = ks[i]?) ∧ R 0 = v ∧ R 1 = u ∧ R 5 = .int .i64 (j : Int)) gs.length ⟨0, by omega, h, fun i hi => by omega, rfl, rfl, rfl⟩ (fun m R w hI => ?_)
  clear h
  obtain ⟨j, hm, h, hall, h0, h1, h5⟩ := hI
  refine W.seq (W.seq (W.region rfl ?_))
  refine WL.p h Val.mv ?_
  refine WL.p h Val.mv ?_
  refine WL.p h (Val.len Tryz.underlying24 h0 hr.val) ?_
  refine WL.p h (Val.lt h5 rfl) ?_
  refine WL.dec (fun c1 => ?_) (fun c1 => ?_)
  · have hg : gs[j]? = some gs[j] := List.getElem?_eq_getElem (by omega)
    have hk : ks[j]? = some ks[j] := List.getElem?_eq_getElem (by omega)
    obtain ⟨si, so, e1, e2, e3⟩ := hx.get j _ hg
    obtain ⟨ti, to, f1, f2, f3⟩ := hy.get j _ hk
    refine WL.nil ?_
    refine W.condT rfl ?_
    refine W.skip ?_
    refine W.seq (W.block ?_)
    refine W.seq (W.draw (fun w => Hp w0 F F [] w) [] 10 (by kernel_rfl) rfl rfl ?_)
    have hS := h.drewN 1
    refine WD.take 0 rfl (by kernel_rfl) (fun _ _ _ h => fin_panic h) hS Val.mv ?_
    refine WD.take 1 rfl (by kernel_rfl) (fun _ _ _ h => fin_panic h) hS Val.mv ?_
    refine WD.take 2 rfl (by kernel_rfl) (fun _ _ _ h => fin_panic h) hS (Val.ix (i := j) Tryz.underlying24 T49z h0 h5 (hr.slice (by omega)) (by omega)) ?_
    refine WD.take 3 rfl (by kernel_rfl) (fun _ _ _ h => fin_panic h) hS (Val.ldRS A49z T49z hr rfl (cs := tgc gs[j] si so) rfl e1) ?_
    refine WD.take 4 rfl (by kernel_rfl) (fun _ _ _ h => fin_panic h) hS Val.mv ?_
    refine WD.take 5 rfl (by kernel_rfl) (fun _ _ _ h => fin_panic h) hS Val.mv ?_
    refine WD.take 6 rfl (by kernel_rfl) (fun _ _ _ h => fin_panic h) hS (Val.ix (i := j) Tryz.underlying24 T49z h1 h5 (hs.slice (by omega)) (by omega)) ?_
    refine WD.take 7 rfl (by kernel_rfl) (fun _ _ _ h => fin_panic h) hS (Val.ldRS A49z T49z hs rfl (cs := tgc ks[j] ti to) rfl f1) ?_
    refine WD.one 8 rfl (by kernel_rfl) ?_
    refine WL.call C52z (args := [.agg (tgc gs[j] si so).toArray, .agg (tgc ks[j] ti to).toArray]) rfl ((eqTarget_calls F _ hS.sub gs[j] ks[j] si so ti to e2 e3 f2 f3).mono ?_)
    rintro e w' ⟨b, rfl, hb, hE⟩
    have hS := hS.call hE
    refine ⟨_, rfl, ?_⟩
    refine WL.nil ?_
    refine ⟨hS, ?_⟩
    refine WD.take 9 rfl (by kernel_rfl) (fun _ _ _ h => fin_panic h) hS (Val.not rfl) ?_
    cases b with
    | false =>
      refine WD.nil (by kernel_rfl) ?_
      have h := hS
      refine W.condT rfl ?_
      refine W.seq (W.region rfl ?_)
      refine WL.p h Val.as ?_
      refine WL.nil ?_
      refine W.ret ?_
      exact fin1 (v := .bool false) rfl rfl (PBz.no h.toExt (fun e => by subst e; simpa using hb.2 rfl))
    | true =>
      refine WD.nil (by kernel_rfl) ?_
      have h := hS
      refine W.condF rfl ?_
      refine W.skip ?_
      refine W.region rfl ?_
      refine WL.p h Val.mv ?_
      refine WL.p h (Val.addi (c := ((j + 1 : Nat) : Int)) h5 rfl (by omega)) ?_
      refine WL.p h Val.as ?_
      refine WL.nil ?_
      exact ⟨m - 1, by omega, j + 1, by omega, h, fun i hi => by
        by_cases e : i = j
        · subst e; rw [hg, hk, hb.1 rfl]
        · exact hall i (by omega), h0, h1, rfl⟩
  · refine WL.nil ?_
    refine W.condF rfl ?_
    refine W.exit ?_
    refine W.seq (W.region rfl ?_)
    refine WL.p h Val.as ?_
    refine WL.nil ?_
    refine W.ret ?_
    exact fin1 (v := .bool true) rfl rfl (PBz.yes h.toExt (List.ext_getElem? fun i => by
      by_cases hi : i < j
      · exact hall i hi
      · rw [List.getElem?_eq_none (by omega), List.getElem?_eq_none (by omega)]))
end Go.Proofs.YtmiihhbgfijcmaaGreat.K


/- Targets: plans compared, walked. -/
namespace Go.Proofs.YtmiihhbgfijcmaaGreat.K
open Go Go.RowKit
set_option linter.unusedVariables false
set_option linter.unusedSimpArgs false
set_option maxRecDepth 20000
theorem C8z : CF Tryz.prog 8 := ⟨_, Tryz.func8, rfl, rfl⟩
structure Pl where
  code : Int
  at' : Int
  gs : List Tg
theorem eqPlan_calls (F : Fz) (w0 : World) (hF : Sub F (hv w0)) (p q : Pl) (v u : Value) (xs ys : List Value) (hr : FRow F v p.gs.length 5 xs) (hx : TRow F p.gs xs) (hs : FRow F u q.gs.length 5 ys) (hy : TRow F q.gs ys) : Calls Tryz.prog 8 #[.agg #[.int .i64 p.code, .int .i64 p.at', v], .agg #[.int .i64 q.code, .int .i64 q.at', u]] w0 (PBz F w0 (p = q)) := by
  refine calls 21 Tryz.func8 rfl rfl rfl ?_
  have h := Hp.start hF
  refine W.seq (W.region rfl ?_)
  refine WL.box h rfl (fun b2 w h => ?_)
  refine WL.box h rfl (fun b3 w h => ?_)
  refine WL.p h Val.as ?_
  refine WL.nil ?_
  refine W.seq (W.seq (W.region rfl ?_))
  refine WL.p h (Val.fa O26_0z rfl) ?_
  refine WL.p h (Val.ld 0 A3 rfl rfl rfl) ?_
  refine WL.p h (Val.fa O26_0z rfl) ?_
  refine WL.p h (Val.ld 1 A3 rfl rfl rfl) ?_
  refine WL.p h (Val.ne (a := p.code) (b := q.code) rfl rfl) ?_
  refine WL.dec (fun c0 => ?_) (fun c0 => ?_)
  · refine WL.nil ?_
    refine W.condT rfl ?_
    refine W.seq (W.region rfl ?_)
    refine WL.p h Val.as ?_
    refine WL.nil ?_
    refine W.ret ?_
    exact fin1 (v := .bool false) rfl rfl (PBz.no h.toExt (fun e => c0 (by rw [e])))
  refine WL.nil ?_
  refine W.condF rfl ?_
  refine W.skip ?_
  refine W.seq (W.seq (W.region rfl ?_))
  refine WL.p h (Val.fa O26_1z rfl) ?_
  refine WL.p h (Val.ld 0 A3 rfl rfl rfl) ?_
  refine WL.p h (Val.fa O26_1z rfl) ?_
  refine WL.p h (Val.ld 1 A3 rfl rfl rfl) ?_
  refine WL.p h (Val.ne (a := p.at') (b := q.at') rfl rfl) ?_
  refine WL.dec (fun c1 => ?_) (fun c1 => ?_)
  · refine WL.nil ?_
    refine W.condT rfl ?_
    refine W.seq (W.region rfl ?_)
    refine WL.p h Val.as ?_
    refine WL.nil ?_
    refine W.ret ?_
    exact fin1 (v := .bool false) rfl rfl (PBz.no h.toExt (fun e => c1 (by rw [e])))
  refine WL.nil ?_
  refine W.condF rfl ?_
  refine W.skip ?_
  refine W.seq (W.seq (W.region rfl ?_))
  refine WL.p h (Val.fa O26_2z rfl) ?_
  refine WL.p h (Val.ld 0 A24z rfl rfl rfl) ?_
  refine WL.p h (Val.fa O26_2z rfl) ?_
  refine WL.p h (Val.ld 1 A24z rfl rfl rfl) ?_
  refine WL.call C28z (args := [v, u]) rfl ((eqTargetS_calls F _ h.sub v u p.gs q.gs xs ys hr hx hs hy).mono ?_)
  rintro e w' ⟨b, rfl, hb, hE⟩
  have h := h.call hE
  refine ⟨_, rfl, ?_⟩
  refine WL.p h (Val.not rfl) ?_
  cases b with
  | false =>
    refine WL.nil ?_
    refine W.condT rfl ?_
    refine W.seq (W.region rfl ?_)
    refine WL.p h Val.as ?_
    refine WL.nil ?_
    refine W.ret ?_
    exact fin1 (v := .bool false) rfl rfl (PBz.no h.toExt (fun e => by subst e; simpa using hb.2 rfl))
  | true =>
    refine WL.nil ?_
    refine W.condF rfl ?_
    refine W.skip ?_
    refine W.seq (W.region rfl ?_)
    refine WL.p h Val.as ?_
    refine WL.nil ?_
    refine W.ret ?_
    exact fin1 (v := .bool true) rfl rfl (PBz.yes h.toExt (by
      have hg := hb.1 rfl
      cases p; cases q
      simp at c0 c1 hg
      simp [c0, c1, hg]))
end Go.Proofs.YtmiihhbgfijcmaaGreat.K


