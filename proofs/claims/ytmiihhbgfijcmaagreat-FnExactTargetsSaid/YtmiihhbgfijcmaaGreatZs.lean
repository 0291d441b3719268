/- Targets: the reference's targets, walked. -/
import Derived.Test.YtmiihhbgfijcmaaGreatZr
namespace Go.Proofs.YtmiihhbgfijcmaaGreat.K
open Go Go.RowKit
set_option linter.unusedVariables false
set_option linter.unusedSimpArgs false
set_option maxRecDepth 20000
theorem C15q : CF Tryz.prog 15 := ⟨_, Tryz.func15, rfl, rfl⟩
def PSp (F : Fz) (w0 : World) (p : Pl) (e : Ending) (w : World) : Prop :=
  ∃ (F' : Fz) (v : Value) (xs : List Value), e = .returned (.agg ([.int .i64 p.code, .int .i64 p.at', v] : List Value).toArray) ∧ Ext F w0 F' w ∧ FRow F' v p.gs.length 5 xs ∧ TRow F' p.gs xs
theorem TRow.nil (F : Fz) : TRow F [] [] := ⟨rfl, fun i g h => by simp at h⟩
theorem TRow.snoc {F : Fz} {gs : List Tg} {xs : List Value} (h : TRow F gs xs) {g : Tg} {si so : Value} (hi : FRow F si g.ins.length 1 (rowS g.ins)) (ho : FRow F so g.outs.length 1 (rowS g.outs)) : TRow F (gs ++ [g]) (xs ++ tgc g si so) := by
  refine ⟨by simp [h.len, tgc]; omega, fun i x hx => ?_⟩
  by_cases hl : i < gs.length
  · rw [List.getElem?_append_left hl] at hx
    obtain ⟨s1, s2, h1, h2, h3⟩ := h.get i x hx
    refine ⟨s1, s2, fun j u hu => ?_, h2, h3⟩
    have := h1 j u hu
    rw [List.getElem?_append_left (List.getElem?_eq_some_iff.1 this).1]
    exact this
  · rw [List.getElem?_append_right (by omega)] at hx
    have hi0 : i - gs.length = 0 := by
      have := (List.getElem?_eq_some_iff.1 hx).1
      simp at this; omega
    rw [hi0] at hx
    simp at hx
    subst hx
    refine ⟨si, so, fun j u hu => ?_, hi, ho⟩
    have hie : i = gs.length := by omega
    rw [hie, ← h.len, List.getElem?_append_right (by omega), Nat.add_sub_cancel_left]
    exact hu
theorem nilT (F : Fz) (size : Nat) : FRow F (.slice none 0 0) 0 size [] := ⟨by simp, by omega, ⟨none, 0, rfl, Nat.le_refl _⟩, .inl rfl⟩
theorem PSp.err {F F' : Fz} {w0 w : World} {L : List Ch} {p : Pl} {c i : Int} (h : Hp w0 F F' L w) (hp : p = ⟨c, i, []⟩) : PSp F w0 p (.returned (.agg ([.int .i64 c, .int .i64 i, .slice none 0 0] : List Value).toArray)) w := by
  subst hp
  exact ⟨F', .slice none 0 0, [], rfl, h.toExt, nilT F' 5, TRow.nil F'⟩
theorem valid_no {F : Fz} {w0 : World} (hF : Sub F (hv w0)) {v : Value} {es : List At} (hr : FRow F v es.length 4 (rowA es)) (hB : es.length ≤ 1048576) (ht : treeP es = none) : Calls Tryz.prog 14 #[.agg #[v]] w0 fun e w' => e = .returned (.bool false) ∧ Ext F w0 F w' :=
  (specValidValue_calls F w0 hF v es hr hB).mono fun e w' ⟨b, h1, h2, h3⟩ => by
    cases b with
    | false => exact ⟨h1, h3⟩
    | true => exact absurd (treeP_none ht) (h2.1 rfl)
theorem valid_yes {F : Fz} {w0 : World} (hF : Sub F (hv w0)) {v : Value} {es : List At} {t : T} (hr : FRow F v es.length 4 (rowA es)) (hB : es.length ≤ 1048576) (ht : treeP es = some t) : Calls Tryz.prog 14 #[.agg #[v]] w0 fun e w' => e = .returned (.bool true) ∧ Ext F w0 F w' :=
  (specValidValue_calls F w0 hF v es hr hB).mono fun e w' ⟨b, h1, h2, h3⟩ => by
    cases b with
    | true => exact ⟨h1, h3⟩
    | false =>
      exfalso
      have := h2.2 ((treeP_iff es).1 (by rw [ht]; simp))
      cases this
theorem l9_none {F : Fz} {w0 : World} (hF : Sub F (hv w0)) {v : Value} {es : List At} {t : T} (ht : treeP es = some t) (hvt : Vt t) (hr : FRow F v es.length 4 (rowA es)) (hg : tgA t = none) : Calls Tryz.prog 15 #[.agg #[v]] w0 fun e w' => ∃ (F' : Fz) (cs : List Value), e = .returned (.tuple #[.agg cs.toArray, .bool false]) ∧ Ext F w0 F' w' ∧ (∀ v ∈ cs, v.oneCell' = true) ∧ cs.length = 5 := by
  obtain ⟨rfl, _⟩ := treeP_some ht
  refine (l9Target_calls F w0 hF v t hvt hr).mono fun e w' ⟨F', cs, b, h1, h2, h3, h4, h5⟩ => ?_
  rw [hg] at h5
  exact ⟨F', cs, by rw [h1, h5], h2, h3, h4⟩
theorem l9_some {F : Fz} {w0 : World} (hF : Sub F (hv w0)) {v : Value} {es : List At} {t : T} {g : Tg} (ht : treeP es = some t) (hvt : Vt t) (hr : FRow F v es.length 4 (rowA es)) (hg : tgA t = some g) : Calls Tryz.prog 15 #[.agg #[v]] w0 fun e w' => ∃ (F' : Fz) (si so : Value), e = .returned (.tuple #[.agg (tgc g si so).toArray, .bool true]) ∧ Ext F w0 F' w' ∧ FRow F' si g.ins.length 1 (rowS g.ins) ∧ FRow F' so g.outs.length 1 (rowS g.outs) := by
  obtain ⟨rfl, _⟩ := treeP_some ht
  refine (l9Target_calls F w0 hF v t hvt hr).mono fun e w' ⟨F', cs, b, h1, h2, h3, h4, h5⟩ => ?_
  rw [hg] at h5
  obtain ⟨h5, si, so, h6, h7, h8⟩ := h5
  exact ⟨F', si, so, by rw [h1, h5, h6]; rfl, h2, h7, h8⟩
theorem tgA_outs {t : T} {g : Tg} (hg : tgA t = some g) : 0 < g.outs.length := by
  unfold tgA at hg
  split at hg
  · cases hg
  · split at hg
    · cases hg
    · split at hg
      · rename_i hb
        cases hg
        simp only [Bool.and_eq_true] at hb
        have h5 := hb.2
        show 0 < (listA t.kids kOuts true).1.length
        have h5 : (listA t.kids kOuts true).2 = true := h5
        unfold listA at h5 ⊢
        cases hx : getT t.kids kOuts with
        | none => rw [hx] at h5; simp at h5
        | some x =>
          rw [hx] at h5
          simp only at h5 ⊢
          split at h5
          · cases h5
          · rename_i hc
            rw [if_neg hc, (listG_ok x.kids []).2 h5]
            rw [not_or] at hc
            have : x.kids ≠ [] := fun e => hc.2 (by simpa using e)
            have := List.length_pos_iff.2 this
            simpa using this
      · cases hg
theorem sorted_calls {F : Fz} {w0 : World} (hF : Sub F (hv w0)) {v : Value} {ss : List ByteArray} (hr : FRow F v ss.length 1 (rowS ss)) (hl : ss.length ≤ 1048576) (hn : ss.Nodup) : Calls Tryz.prog 18 #[v] w0 (PRow F w0 (sortB ss)) := by
  have := l9Sorted_calls F w0 hF v ss hr hl
  rwa [sortedL_sort hn] at this
theorem app_rowS (a b : List ByteArray) : rowS a ++ rowS b = rowS (a ++ b) := by simp [rowS]
def ownN (s : Value) (l : List ByteArray) : Ch := .own s 9 1 l.length (rowS l)
theorem ownN_app {s : Value} {a b : List ByteArray} : (.own s 9 1 (a.length + b.length) (rowS a ++ rowS b) : Ch) = ownN s (a ++ b) := by
  rw [ownN, app_rowS, List.length_append]
def sL (b2 : Nat) (nv ov lv : Value) (names outs : List ByteArray) (gs : List Tg) (xs : List Value) : List Ch :=
  [.box b2 z3 26, ownN nv names, ownN ov outs, .own lv 49 5 gs.length xs]
def sI (w0 : World) (F : Fz) (b2 : Nat) (vt : Value) (ds : List Td) (j : Nat) (R : Regs) (w : World) : Prop :=
  ∃ (F' : Fz) (nv ov lv : Value) (names outs : List ByteArray) (gs : List Tg) (xs : List Value), Sub F F' ∧ Hp w0 F F' (sL b2 nv ov lv names outs gs xs) w ∧ TRow F' gs xs ∧ runP (ds.drop j) j names outs gs = planP ds ∧ names.Nodup ∧ names = gs.map Tg.name ∧ gs.length ≤ j ∧ outs.length ≤ 1000 * j ∧
    R 0 = vt ∧ R 2 = pt b2 ∧ R 3 = nv ∧ R 4 = ov ∧ R 5 = lv ∧ R 6 = .int .i64 (j : Int)
def filtN (gs : List Tg) (n : ByteArray) : List Tg := gs.filter fun g => decide (g.name = n)
theorem filt_take {gs : List Tg} {k : Nat} {g : Tg} (n : ByteArray) (h : gs[k]? = some g) : filtN (gs.take (k + 1)) n = filtN (gs.take k) n ++ if g.name = n then [g] else [] := by
  obtain ⟨l1, e1⟩ := List.getElem?_eq_some_iff.1 h
  rw [filtN, List.take_succ_eq_append_getElem l1, e1, List.filter_append]
  by_cases hc : g.name = n <;> simp [hc, filtN]
theorem flat_take1 {ns : List ByteArray} {i : Nat} {n : ByteArray} (f : ByteArray → List Tg) (h : ns[i]? = some n) : (ns.take (i + 1)).flatMap f = (ns.take i).flatMap f ++ f n := by
  obtain ⟨l1, e1⟩ := List.getElem?_eq_some_iff.1 h
  rw [List.take_succ_eq_append_getElem l1, e1]; simp
theorem filt_len (gs : List Tg) (hn : (gs.map Tg.name).Nodup) (n : ByteArray) : (filtN gs n).length ≤ 1 := by
  by_cases h : ∃ g ∈ gs, g.name = n
  · obtain ⟨g, hg, rfl⟩ := h
    rw [filtN, filter_one gs hn g hg]; simp
  · have : filtN gs n = [] := by
      rw [filtN, List.filter_eq_nil_iff]
      intro g hg
      simp only [decide_eq_true_eq]
      exact fun e => h ⟨g, hg, e⟩
    rw [this]; simp
theorem flat_le (f : ByteArray → List Tg) (hf : ∀ n, (f n).length ≤ 1) : ∀ (ns : List ByteArray), (ns.flatMap f).length ≤ ns.length
  | [] => by simp
  | n :: ns => by
    have := flat_le f hf ns
    have := hf n
    simp only [List.flatMap_cons, List.length_append, List.length_cons]
    omega
set_option maxHeartbeats 8000000 in
theorem specTargets_calls (F : Fz) (w0 : World) (hF : Sub F (hv w0)) (vt : Value) (ds : List Td) (xs0 : List Value) (hr0 : FRow F vt ds.length 2 xs0) (hd0 : DRow F ds xs0) (hok : DOk ds) : Calls Tryz.prog 5 #[vt] w0 (PSp F w0 (planP ds)) := by
  have hlen := hok.len
  refine calls 140 Tryz.func5 rfl rfl rfl ?_
  have h := Hp.start hF
  refine W.seq (W.region rfl ?_)
  refine WL.alloc h T26z (fun b2 w h => ?_)
  refine WL.nil ?_
  refine W.seq (W.region rfl ?_)
  refine WL.bs0 h Tryz.underlying41 T9 (fun bn w h => ?_)
  refine WL.p h Val.as ?_
  refine WL.nil ?_
  refine W.seq (W.region rfl ?_)
  refine WL.bs0 h Tryz.underlying41 T9 (fun bo w h => ?_)
  refine WL.p h Val.as ?_
  refine WL.nil ?_
  refine W.seq (W.region rfl ?_)
  refine WL.bs0 h Tryz.underlying24 T49z (fun bl w h => ?_)
  refine WL.p h Val.as ?_
  refine WL.nil ?_
  refine W.seq (W.seq (W.region rfl ?_))
  refine WL.p h Val.as ?_
  refine WL.nil ?_
  refine W.block ?_
  refine W.loop (fun m R w => ∃ j, m + j = ds.length ∧ sI w0 F b2 vt ds j R w) ds.length ⟨0, by omega, F, _, _, _, [], [], [], [], Sub.refl _, h, TRow.nil F, rfl, .nil, rfl, by simp, by simp, rfl, rfl, rfl, rfl, rfl, rfl⟩ (fun m R w hI => ?_)
  clear h
  obtain ⟨j, hm, F1, nv, ov, lv, names, outs, gs, xs, hs1, h, hT, hrun, hnn, hnames, hgl, hol, h0, h2, h3, h4, h5, h6⟩ := hI
  refine W.seq (W.seq (W.region rfl ?_))
  refine WL.p h Val.mv ?_
  refine WL.p h Val.mv ?_
  refine WL.p h (Val.len Tryz.underlying28 h0 hr0.val) ?_
  refine WL.p h (Val.lt h6 rfl) ?_
  refine WL.dec (fun c => ?_) (fun c => ?_)
  · obtain ⟨d, hd⟩ : ∃ d, ds[j]? = some d := ⟨_, List.getElem?_eq_getElem (by omega)⟩
    have hdm := List.mem_of_getElem? hd
    have hnum := hok.num d hdm
    have htxt := hok.txt d hdm
    have hB := hok.lens d hdm
    have hr := hr0.mono hs1
    obtain ⟨s, hcell, hrs⟩ := (hd0.mono hs1).get j d hd
    have hat : ∀ (i : Nat) u, ([s] : List Value)[i]? = some u → xs0[j * 2 + 1 + i]? = some u := fun i u hu => by
      have := hcell (1 + i) u (by
        cases i with
        | zero => simpa using hu
        | succ i => simp at hu)
      rwa [← Nat.add_assoc] at this
    refine WL.nil ?_
    refine W.condT rfl ?_
    refine W.skip ?_
    refine W.seq (W.block ?_)
    refine W.seq (W.seq (W.region rfl ?_))
    refine WL.p h Val.mv ?_
    refine WL.p h Val.mv ?_
    refine WL.p h (Val.ix (i := j) Tryz.underlying28 T47z h0 h6 (hr.slice (by omega)) (by omega)) ?_
    refine WL.p h (Val.fa O47_1z rfl) ?_
    refine WL.p h (Val.ldRS A42 T42 hr (p := j * 2 + 1) rfl (cs := [s]) rfl hat) ?_
    cases ht : treeP d.2 with
    | none =>
      refine WL.call C16 (args := [.agg #[s]]) rfl ((valid_no h.sub hrs hB ht).mono ?_)
      rintro e w' ⟨rfl, hE⟩
      have h := h.call hE
      refine ⟨_, rfl, ?_⟩
      refine WL.p h (Val.not rfl) ?_
      refine WL.nil ?_
      refine W.condT rfl ?_
      refine W.seq (W.region rfl ?_)
      refine WL.p h Val.mv ?_
      refine WL.p h (Val.build2 rfl h6 (B26c 1 j)) ?_
      refine WL.stS 0 h rfl T26z h2 (vs := [.int .i64 1, .int .i64 j, .slice none 0 0]) rfl (by simp [Value.oneCell']) rfl rfl (fun w h => ?_)
      refine WL.nil ?_
      refine W.ret ?_
      exact finBox h 0 rfl h2 rfl A26z T26z rfl (PSp.err h (run_stop hrun hd (step1 ht)))
    | some t =>
      have hvt := Vt.of ht hnum
      refine WL.call C16 (args := [.agg #[s]]) rfl ((valid_yes h.sub hrs hB ht).mono ?_)
      rintro e w' ⟨rfl, hE⟩
      have h := h.call hE
      refine ⟨_, rfl, ?_⟩
      refine WL.p h (Val.not rfl) ?_
      refine WL.nil ?_
      refine W.condF rfl ?_
      refine W.skip ?_
      refine W.seq (W.region rfl ?_)
      refine WL.p h Val.mv ?_
      refine WL.p h Val.mv ?_
      refine WL.p h (Val.ix (i := j) Tryz.underlying28 T47z h0 h6 (hr.slice (by omega)) (by omega)) ?_
      refine WL.p h (Val.fa O47_1z rfl) ?_
      refine WL.p h (Val.ldRS A42 T42 hr (p := j * 2 + 1) rfl (cs := [s]) rfl hat) ?_
      cases hg : tgA t with
      | none =>
        refine WL.call C15q (args := [.agg #[s]]) rfl ((l9_none h.sub ht hvt hrs hg).mono ?_)
        rintro e w' ⟨F2, cs, rfl, hE2, hc1, hcl⟩
        have h := h.call hE2
        refine ⟨_, rfl, ?_⟩
        refine WL.p h Val.mv ?_
        refine WL.p h (Val.ext (v := .agg cs.toArray) rfl rfl) ?_
        refine WL.p h (Val.ext (v := .bool false) rfl rfl) ?_
        refine WL.alloc h T49z (fun b7 w h => ?_)
        refine WL.stS 4 h rfl T49z rfl (vs := cs) rfl hc1 hcl hcl (fun w h => ?_)
        refine WL.p h Val.as ?_
        refine WL.nil ?_
        refine W.seq (W.seq (W.region rfl ?_))
        refine WL.p h Val.mv ?_
        refine WL.p h (Val.not rfl) ?_
        refine WL.nil ?_
        refine W.condT rfl ?_
        refine W.seq (W.region rfl ?_)
        refine WL.p h Val.mv ?_
        refine WL.p h (Val.build2 rfl h6 (B26c 2 j)) ?_
        refine WL.stS 0 h rfl T26z h2 (vs := [.int .i64 2, .int .i64 j, .slice none 0 0]) rfl (by simp [Value.oneCell']) rfl rfl (fun w h => ?_)
        refine WL.nil ?_
        refine W.ret ?_
        exact finBox h 0 rfl h2 rfl A26z T26z rfl (PSp.err h (run_stop hrun hd (step2 ht hg)))
      | some g =>
        have hgo := tgA_ok ht htxt hnum hg
        have hop := tgA_outs hg
        have hni := hgo.nins
        have hnu := hgo.nouts
        refine WL.call C15q (args := [.agg #[s]]) rfl ((l9_some h.sub ht hvt hrs hg).mono ?_)
        rintro e w' ⟨F2, si, so, rfl, hE2, hri, hro⟩
        have h := h.call hE2
        have hs2 := hs1.trans hE2.ext
        have hone := tgc_one (s := g) hri.one hro.one
        refine ⟨_, rfl, ?_⟩
        refine WL.p h Val.mv ?_
        refine WL.p h (Val.ext (v := .agg (tgc g si so).toArray) rfl rfl) ?_
        refine WL.p h (Val.ext (v := .bool true) rfl rfl) ?_
        refine WL.alloc h T49z (fun b7 w h => ?_)
        refine WL.stS 4 h rfl T49z rfl (vs := tgc g si so) rfl hone rfl rfl (fun w h => ?_)
        refine WL.p h Val.as ?_
        refine WL.nil ?_
        refine W.seq (W.seq (W.region rfl ?_))
        refine WL.p h Val.mv ?_
        refine WL.p h (Val.not rfl) ?_
        refine WL.nil ?_
        refine W.condF rfl ?_
        refine W.skip ?_
        refine W.seq (W.seq (W.region rfl ?_))
        refine WL.p h Val.mv ?_
        refine WL.p h (Val.fa O49_0z rfl) ?_
        refine WL.p h (Val.ld 4 A9 rfl rfl rfl) ?_
        refine WL.call C16z (args := [nv, .string g.name]) (congrArg (fun x => [x, Value.string g.name]) h3) ((l1Has_calls (hv _) _ (Sub.refl _) nv names g.name (h.row 1 rfl)).mono ?_)
        rintro e w' ⟨bn, rfl, hbn, hE3⟩
        have h := h.below_step hE3.below
        refine ⟨_, rfl, ?_⟩
        cases bn with
        | true =>
          refine WL.nil ?_
          refine W.condT rfl ?_
          refine W.seq (W.region rfl ?_)
          refine WL.p h Val.mv ?_
          refine WL.p h (Val.build2 rfl h6 (B26c 3 j)) ?_
          refine WL.stS 0 h rfl T26z h2 (vs := [.int .i64 3, .int .i64 j, .slice none 0 0]) rfl (by simp [Value.oneCell']) rfl rfl (fun w h => ?_)
          refine WL.nil ?_
          refine W.ret ?_
          exact finBox h 0 rfl h2 rfl A26z T26z rfl (PSp.err h (run_stop hrun hd (step3 ht hg (hbn.1 rfl))))
        | false =>
          have hc3 : g.name ∉ names := fun hn => by cases hbn.2 hn
          refine WL.nil ?_
          refine W.condF rfl ?_
          refine W.skip ?_
          refine W.seq (W.seq (W.region rfl ?_))
          refine WL.p h Val.as ?_
          refine WL.nil ?_
          refine W.block ?_
          refine W.loop (fun m R w => ∃ i, m + i = g.outs.length ∧ Hp w0 F F2 (sL b2 nv ov lv names outs gs xs ++ [.box b7 (tgc g si so) 49]) w ∧ (∀ (i' : Nat) x, i' < i → g.outs[i']? = some x → x ∉ outs ∧ x ∉ g.outs.take i') ∧ R 0 = vt ∧ R 2 = pt b2 ∧ R 3 = nv ∧ R 4 = ov ∧ R 5 = lv ∧ R 6 = .int .i64 (j : Int) ∧ R 7 = pt b7 ∧ R 9 = .int .i64 (i : Int)) g.outs.length ⟨0, by omega, h, fun i' x hi' => by omega, h0, h2, h3, h4, h5, h6, rfl, rfl⟩ (fun m' R w hI => ?_)
          clear h h0 h2 h3 h4 h5 h6
          obtain ⟨i, hi, h, hclean, h0, h2, h3, h4, h5, h6, h7, h9⟩ := hI
          refine W.seq (W.seq (W.region rfl ?_))
          refine WL.p h Val.mv ?_
          refine WL.p h (Val.fa O49_4z h7) ?_
          refine WL.p h (Val.ld 4 A24 rfl rfl rfl) ?_
          refine WL.p h (Val.len Tryz.underlying41 rfl hro.val) ?_
          refine WL.p h (Val.lt h9 rfl) ?_
          refine WL.dec (fun c5 => ?_) (fun c5 => ?_)
          · obtain ⟨x, hx⟩ : ∃ x, g.outs[i]? = some x := ⟨_, List.getElem?_eq_getElem (by omega)⟩
            have hrj : FRow F2 (headS so i) (g.outs.take i).length 1 (rowS (g.outs.take i)) := by
              have := hro.head (i := i) (by omega)
              rw [Nat.mul_one] at this
              rw [List.length_take, Nat.min_eq_left (by omega), rowS, List.map_take]
              exact this
            refine WL.nil ?_
            refine W.condT rfl ?_
            refine W.skip ?_
            refine W.seq (W.block ?_)
            refine W.seq (W.draw (fun w => Hp w0 F F2 (sL b2 nv ov lv names outs gs xs ++ [.box b7 (tgc g si so) 49]) w) [] 19 (by kernel_rfl) rfl rfl ?_)
            have hS := h.drewN 1
            refine WD.take 0 rfl (by kernel_rfl) (fun _ _ _ h => fin_panic h) hS Val.mv ?_
            refine WD.take 1 rfl (by kernel_rfl) (fun _ _ _ h => fin_panic h) hS (Val.fa O49_4z h7) ?_
            refine WD.take 2 rfl (by kernel_rfl) (fun _ _ _ h => fin_panic h) hS (Val.ld 4 A24 rfl rfl rfl) ?_
            refine WD.take 3 rfl (by kernel_rfl) (fun _ _ _ h => fin_panic h) hS Val.mv ?_
            refine WD.take 4 rfl (by kernel_rfl) (fun _ _ _ h => fin_panic h) hS (Val.ix (i := i) Tryz.underlying41 T9 rfl h9 (hro.slice (by omega)) (by omega)) ?_
            refine WD.take 5 rfl (by kernel_rfl) (fun _ _ _ h => fin_panic h) hS (Val.ldR A9 hro rfl (rowS_get hx)) ?_
            refine WD.one 6 rfl (by kernel_rfl) ?_
            refine WL.call C16z (args := [ov, .string x]) (congrArg (fun y => [y, Value.string x]) h4) ((l1Has_calls (hv _) _ (Sub.refl _) ov outs x (hS.row 2 rfl)).mono ?_)
            rintro e w' ⟨b1, rfl, hb1, hE⟩
            have hS := hS.below_step hE.below
            refine ⟨_, rfl, ?_⟩
            refine WL.nil ?_
            refine ⟨hS, ?_⟩
            refine WD.take 7 rfl (by kernel_rfl) (fun _ _ _ h => fin_panic h) hS Val.mv ?_
            cases b1 with
            | true =>
              have hc4 : ¬ g.outs.Nodup ∨ ∃ x ∈ g.outs, x ∈ outs := .inr ⟨x, List.mem_of_getElem? hx, hb1.1 rfl⟩
              refine WD.skip 8 rfl (by kernel_rfl) (fun _ _ _ h => fin_panic h) hS rfl ?_
              refine WD.skip 9 rfl (by kernel_rfl) (fun _ _ _ h => fin_panic h) hS rfl ?_
              refine WD.skip 10 rfl (by kernel_rfl) (fun _ _ _ h => fin_panic h) hS rfl ?_
              refine WD.skip 11 rfl (by kernel_rfl) (fun _ _ _ h => fin_panic h) hS rfl ?_
              refine WD.skip 12 rfl (by kernel_rfl) (fun _ _ _ h => fin_panic h) hS rfl ?_
              refine WD.skip 13 rfl (by kernel_rfl) (fun _ _ _ h => fin_panic h) hS rfl ?_
              refine WD.skip 14 rfl (by kernel_rfl) (fun _ _ _ h => fin_panic h) hS rfl ?_
              refine WD.skip 15 rfl (by kernel_rfl) (fun _ _ _ h => fin_panic h) hS rfl ?_
              refine WD.skip 16 rfl (by kernel_rfl) (fun _ _ _ h => fin_panic h) hS rfl ?_
              refine WD.skip 17 rfl (by kernel_rfl) (fun _ _ _ h => fin_panic h) hS rfl ?_
              refine WD.take 18 rfl (by kernel_rfl) (fun _ _ _ h => fin_panic h) hS (Val.pick rfl) ?_
              refine WD.nil (by kernel_rfl) ?_
              have h := hS
              refine W.condT rfl ?_
              refine W.seq (W.region rfl ?_)
              refine WL.p h Val.mv ?_
              refine WL.p h (Val.build2 rfl h6 (B26c 4 j)) ?_
              refine WL.stS 0 h rfl T26z h2 (vs := [.int .i64 4, .int .i64 j, .slice none 0 0]) rfl (by simp [Value.oneCell']) rfl rfl (fun w h => ?_)
              refine WL.nil ?_
              refine W.ret ?_
              exact finBox h 0 rfl h2 rfl A26z T26z rfl (PSp.err h (run_stop hrun hd (step4 ht hg hc3 hc4)))
            | false =>
              refine WD.take 8 rfl (by kernel_rfl) (fun _ _ _ h => fin_panic h) hS (Val.fa O49_4z h7) ?_
              refine WD.take 9 rfl (by kernel_rfl) (fun _ _ _ h => fin_panic h) hS (Val.ld 4 A24 rfl rfl rfl) ?_
              refine WD.take 10 rfl (by kernel_rfl) (fun _ _ _ h => fin_panic h) hS Val.mv ?_
              refine WD.take 11 rfl (by kernel_rfl) (fun _ _ _ h => fin_panic h) hS (Val.slToV Tryz.underlying41 T9 rfl h9 hro.val (by omega)) ?_
              refine WD.take 12 rfl (by kernel_rfl) (fun _ _ _ h => fin_panic h) hS (Val.fa O49_4z h7) ?_
              refine WD.take 13 rfl (by kernel_rfl) (fun _ _ _ h => fin_panic h) hS (Val.ld 4 A24 rfl rfl rfl) ?_
              refine WD.take 14 rfl (by kernel_rfl) (fun _ _ _ h => fin_panic h) hS Val.mv ?_
              refine WD.take 15 rfl (by kernel_rfl) (fun _ _ _ h => fin_panic h) hS (Val.ix (i := i) Tryz.underlying41 T9 rfl h9 (hro.slice (by omega)) (by omega)) ?_
              refine WD.take 16 rfl (by kernel_rfl) (fun _ _ _ h => fin_panic h) hS (Val.ldR A9 hro rfl (rowS_get hx)) ?_
              refine WD.one 17 rfl (by kernel_rfl) ?_
              refine WL.call C16z (args := [headS so i, .string x]) rfl ((l1Has_calls F2 _ hS.sub (headS so i) (g.outs.take i) x hrj).mono ?_)
              rintro e w' ⟨b2', rfl, hb2, hE⟩
              have hS := hS.call hE
              refine ⟨_, rfl, ?_⟩
              refine WL.nil ?_
              refine ⟨hS, ?_⟩
              cases b2' with
              | true =>
                have hc4 : ¬ g.outs.Nodup ∨ ∃ x ∈ g.outs, x ∈ outs := .inl (dup_of hx (hb2.1 rfl))
                refine WD.take 18 rfl (by kernel_rfl) (fun _ _ _ h => fin_panic h) hS (Val.pick rfl) ?_
                refine WD.nil (by kernel_rfl) ?_
                have h := hS
                refine W.condT rfl ?_
                refine W.seq (W.region rfl ?_)
                refine WL.p h Val.mv ?_
                refine WL.p h (Val.build2 rfl h6 (B26c 4 j)) ?_
                refine WL.stS 0 h rfl T26z h2 (vs := [.int .i64 4, .int .i64 j, .slice none 0 0]) rfl (by simp [Value.oneCell']) rfl rfl (fun w h => ?_)
                refine WL.nil ?_
                refine W.ret ?_
                exact finBox h 0 rfl h2 rfl A26z T26z rfl (PSp.err h (run_stop hrun hd (step4 ht hg hc3 hc4)))
              | false =>
                refine WD.take 18 rfl (by kernel_rfl) (fun _ _ _ h => fin_panic h) hS (Val.pick rfl) ?_
                refine WD.nil (by kernel_rfl) ?_
                have h := hS
                refine W.condF rfl ?_
                refine W.skip ?_
                refine W.region rfl ?_
                refine WL.p h Val.mv ?_
                refine WL.p h (Val.addi (c := ((i + 1 : Nat) : Int)) h9 rfl (by omega)) ?_
                refine WL.p h Val.as ?_
                refine WL.nil ?_
                exact ⟨m' - 1, by omega, i + 1, by omega, h, fun i' y hi' hy => by
                  by_cases e : i' = i
                  · subst e; rw [hx] at hy; cases hy; exact ⟨fun hn => by (cases hb1.2 hn), fun hn => by (cases hb2.2 hn)⟩
                  · exact hclean i' y (by omega) hy, h0, h2, h3, h4, h5, h6, h7, rfl⟩
          · have hnd : g.outs.Nodup := nodup_of (j := i) (by omega) fun i' x hi' hx => (hclean i' x hi' hx).2
            have hdis : ¬ ∃ x ∈ g.outs, x ∈ outs := fun ⟨x, hx, hm⟩ => by
              obtain ⟨i', hi'⟩ := List.mem_iff_getElem?.1 hx
              exact (hclean i' x (by have := (List.getElem?_eq_some_iff.1 hi').1; omega) hi').1 hm
            have hc4 : ¬ (¬ g.outs.Nodup ∨ ∃ x ∈ g.outs, x ∈ outs) := fun hn => hn.elim (fun hn => hn hnd) hdis
            refine WL.nil ?_
            refine W.condF rfl ?_
            refine W.exit ?_
            refine W.seq (W.seq (W.region rfl ?_))
            refine WL.p h (Val.fa O49_3z h7) ?_
            refine WL.p h (Val.ld 4 A24 rfl rfl rfl) ?_
            refine WL.call C17z (args := [si]) rfl ((l9Twice_calls F2 _ h.sub si g.ins hri).mono ?_)
            rintro e w' ⟨bi, rfl, hbi, hE⟩
            have h := h.call hE
            refine ⟨_, rfl, ?_⟩
            cases bi with
            | true =>
              refine WL.nil ?_
              refine W.condT rfl ?_
              refine W.seq (W.region rfl ?_)
              refine WL.p h Val.mv ?_
              refine WL.p h (Val.build2 rfl h6 (B26c 5 j)) ?_
              refine WL.stS 0 h rfl T26z h2 (vs := [.int .i64 5, .int .i64 j, .slice none 0 0]) rfl (by simp [Value.oneCell']) rfl rfl (fun w h => ?_)
              refine WL.nil ?_
              refine W.ret ?_
              exact finBox h 0 rfl h2 rfl A26z T26z rfl (PSp.err h (run_stop hrun hd (step5 ht hg hc3 hc4 (hbi.1 rfl))))
            | false =>
              have hc5 : ¬ ¬ g.ins.Nodup := fun hn => by cases hbi.2 hn
              have hnx := run_on hrun hd (step6 ht hg hc3 hc4 hc5)
              have hnl : names.length ≤ j := by rw [hnames]; simpa using hgl
              obtain ⟨co, hso⟩ := hro.slice hop
              refine WL.nil ?_
              refine W.condF rfl ?_
              refine W.skip ?_
              refine W.seq (W.region rfl ?_)
              refine WL.p h Val.mv ?_
              refine WL.p h (Val.fa O49_0z h7) ?_
              refine WL.p h (Val.ld 4 A9 rfl rfl rfl) ?_
              refine WL.bs1 h Tryz.underlying41 T9 (by decide) (cs := [.string g.name]) rfl rfl (fun bx w h => ?_)
              refine WL.app 1 h rfl Tryz.underlying41 T9 (by decide) h3 rfl (news := [.string g.name]) rfl (box_news h (i := 5) rfl) (by simp [Value.oneCell']) (by omega) (by omega) (fun nv' w h => ?_)
              refine WL.p h Val.as ?_
              refine WL.nil ?_
              refine W.seq (W.region rfl ?_)
              refine WL.p h Val.mv ?_
              refine WL.p h (Val.fa O49_4z h7) ?_
              refine WL.p h (Val.ld 4 A24 rfl rfl rfl) ?_
              refine WL.app 2 h rfl Tryz.underlying41 T9 (by decide) h4 hso (news := rowS g.outs) (by rw [rowS_len, Nat.mul_one]) (row_news h hro) rowS_one (by omega) (by omega) (fun ov' w h => ?_)
              refine WL.p h Val.as ?_
              refine WL.nil ?_
              have h : Hp w0 F F2 ([.box b2 z3 26, ownN nv' (names ++ [g.name]), ownN ov' (outs ++ g.outs), .own lv 49 5 gs.length xs, .box b7 (tgc g si so) 49] ++ [.box bx [.string g.name] 9]) w := h.cast (by rw [← ownN_app (b := [g.name]), ← ownN_app]; rfl)
              have h := h.left
              refine W.seq (W.region rfl ?_)
              refine WL.p h (Val.fa O49_3z h7) ?_
              refine WL.p h (Val.ld 4 A24 rfl rfl rfl) ?_
              refine WL.call C18z (args := [si]) rfl ((sorted_calls h.sub hri (by omega) (Decidable.not_not.1 hc5)).mono ?_)
              rintro e w' ⟨F3, si', rfl, hE3, hri'⟩
              have h := h.call hE3
              refine ⟨_, rfl, ?_⟩
              refine WL.p h (Val.fa O49_3z h7) ?_
              refine WL.st 4 (v := si') h rfl T24 rfl rfl hri'.one rfl (fun w h => ?_)
              refine WL.nil ?_
              refine W.seq (W.region rfl ?_)
              refine WL.p h (Val.fa O49_4z h7) ?_
              refine WL.p h (Val.ld 4 A24 rfl rfl rfl) ?_
              refine WL.call C18z (args := [so]) rfl ((sorted_calls h.sub (hro.mono hE3.ext) (by omega) hnd).mono ?_)
              rintro e w' ⟨F4, so', rfl, hE4, hro'⟩
              have h := h.call hE4
              have hri' := hri'.mono hE4.ext
              refine ⟨_, rfl, ?_⟩
              refine WL.p h (Val.fa O49_4z h7) ?_
              refine WL.st 4 (v := so') h rfl T24 rfl rfl hro'.one rfl (fun w h => ?_)
              refine WL.nil ?_
              have hs4 := hs2.trans (hE3.ext.trans hE4.ext)
              have hT' := (hT.mono (hE2.ext.trans (hE3.ext.trans hE4.ext))).snoc (g := srt g) (si := si') (so := so') hri' hro'
              have hone' := tgc_one (s := srt g) hri'.one hro'.one
              refine W.region rfl ?_
              refine WL.p h Val.mv ?_
              refine WL.p h (Val.ldS 4 A49z T49z rfl h7 rfl) ?_
              refine WL.bs1 h Tryz.underlying24 T49z (by decide) (cs := tgc (srt g) si' so') rfl rfl (fun by' w h => ?_)
              refine WL.app 3 h rfl Tryz.underlying24 T49z (by decide) h5 rfl (news := tgc (srt g) si' so') rfl (box_news h (i := 5) rfl) hone' (by omega) (by omega) (fun lv' w h => ?_)
              refine WL.p h Val.as ?_
              refine WL.nil ?_
              have h : Hp w0 F F4 (sL b2 nv' ov' lv' (names ++ [g.name]) (outs ++ g.outs) (gs ++ [srt g]) (xs ++ tgc (srt g) si' so')) w := (h.keep 4).cast (by rw [sL, List.length_append]; rfl)
              refine W.region rfl ?_
              refine WL.p h Val.mv ?_
              refine WL.p h (Val.addi (c := ((j + 1 : Nat) : Int)) h6 rfl (by omega)) ?_
              refine WL.p h Val.as ?_
              refine WL.nil ?_
              exact ⟨m - 1, by omega, j + 1, by omega, F4, nv', ov', lv', names ++ [g.name], outs ++ g.outs, gs ++ [srt g], xs ++ tgc (srt g) si' so', hs4, h, hT', hnx, nodup_app hnn (List.pairwise_singleton _ _) (fun ⟨x, hx, hm⟩ => by rw [List.mem_singleton] at hx; subst hx; exact hc3 hm), by rw [List.map_append, hnames]; rfl, by simp; omega, by simp; omega, h0, h2, rfl, rfl, rfl, rfl⟩
  · have hfin := run_end hrun (show ds.length ≤ j by omega)
    have hnl : names.length ≤ j := by rw [hnames]; simpa using hgl
    have hgn : (gs.map Tg.name).Nodup := hnames ▸ hnn
    obtain ⟨Fa, hsa, h, hrN⟩ := h.freezeRow 1 rfl
    obtain ⟨Fb, hsb, h, hrL⟩ := h.freezeRow 3 rfl
    have hT := hT.mono (hsa.trans hsb)
    have hrN := hrN.mono hsb
    refine WL.nil ?_
    refine W.condF rfl ?_
    refine W.exit ?_
    refine W.seq (W.region rfl ?_)
    refine WL.p h Val.mv ?_
    refine WL.call C18z (args := [nv]) (congrArg (fun x => [x]) h3) ((sorted_calls h.sub hrN (by omega) hnn).mono ?_)
    rintro e w' ⟨Fc, sv, rfl, hE, hrS⟩
    have h := h.call hE
    have hT := hT.mono hE.ext
    have hrL := hrL.mono hE.ext
    obtain ⟨sn, hsn⟩ : ∃ sn, sortB names = sn := ⟨_, rfl⟩
    rw [hsn] at hrS
    have hsl : sn.length = names.length := by rw [← hsn, sortB_len]
    refine ⟨_, rfl, ?_⟩
    refine WL.p h Val.as ?_
    refine WL.nil ?_
    refine W.seq (W.region rfl ?_)
    refine WL.p h (Val.build0 B26e) ?_
    refine WL.alloc h T26z (fun b11 w h => ?_)
    refine WL.stS 4 h rfl T26z rfl (vs := z3) rfl (three_one rfl) rfl rfl (fun w h => ?_)
    refine WL.nil ?_
    have h := h.nilRow 49 5
    refine W.seq (W.seq (W.region rfl ?_))
    refine WL.p h Val.as ?_
    refine WL.nil ?_
    refine W.block ?_
    refine W.loop (fun m R w => ∃ (i : Nat) (pv : Value) (ys : List Value), m + i = sn.length ∧ Hp w0 F Fc [.box b2 z3 26, .dead, ownN ov outs, .dead, .box b11 [.int .i64 0, .int .i64 0, pv] 26, .own pv 49 5 ((sn.take i).flatMap (filtN gs)).length ys] w ∧ TRow Fc ((sn.take i).flatMap (filtN gs)) ys ∧ R 2 = pt b2 ∧ R 5 = lv ∧ R 10 = sv ∧ R 11 = pt b11 ∧ R 12 = .int .i64 (i : Int)) sn.length ⟨0, .slice none 0 0, [], by omega, h, TRow.nil Fc, h2, h5, rfl, rfl, rfl⟩ (fun m R w hI => ?_)
    clear h h0 h2 h3 h4 h5 h6
    obtain ⟨i, pv, ys, hi, h, hTy, h2, h5, h10, h11, h12⟩ := hI
    refine W.seq (W.seq (W.region rfl ?_))
    refine WL.p h Val.mv ?_
    refine WL.p h Val.mv ?_
    refine WL.p h (Val.len Tryz.underlying41 h10 hrS.val) ?_
    refine WL.p h (Val.lt h12 rfl) ?_
    refine WL.dec (fun c1 => ?_) (fun c1 => ?_)
    · obtain ⟨n, hn⟩ : ∃ n, sn[i]? = some n := ⟨_, List.getElem?_eq_getElem (by omega)⟩
      have hfl := flat_le (filtN gs) (filt_len gs hgn) (sn.take i)
      have htk : (sn.take i).length ≤ j := by simp; omega
      refine WL.nil ?_
      refine W.condT rfl ?_
      refine W.skip ?_
      refine W.seq (W.block ?_)
      refine W.seq (W.region rfl ?_)
      refine WL.p h Val.as ?_
      refine WL.nil ?_
      refine W.block ?_
      refine W.loop (fun m R w => ∃ (k : Nat) (pv : Value) (ys : List Value), m + k = gs.length ∧ Hp w0 F Fc [.box b2 z3 26, .dead, ownN ov outs, .dead, .box b11 [.int .i64 0, .int .i64 0, pv] 26, .own pv 49 5 ((sn.take i).flatMap (filtN gs) ++ filtN (gs.take k) n).length ys] w ∧ TRow Fc ((sn.take i).flatMap (filtN gs) ++ filtN (gs.take k) n) ys ∧ R 2 = pt b2 ∧ R 5 = lv ∧ R 10 = sv ∧ R 11 = pt b11 ∧ R 12 = .int .i64 (i : Int) ∧ R 13 = .int .i64 (k : Int)) gs.length ⟨0, pv, ys, by omega, h.cast (by simp [filtN]), by simpa [filtN] using hTy, h2, h5, h10, h11, h12, rfl⟩ (fun m' R w hI => ?_)
      clear h h2 h5 h10 h11 h12 hTy
      obtain ⟨k, pv, ys, hk, h, hTy, h2, h5, h10, h11, h12, h13⟩ := hI
      refine W.seq (W.seq (W.region rfl ?_))
      refine WL.p h Val.mv ?_
      refine WL.p h Val.mv ?_
      refine WL.p h (Val.len Tryz.underlying24 h5 hrL.val) ?_
      refine WL.p h (Val.lt h13 rfl) ?_
      refine WL.dec (fun c2 => ?_) (fun c2 => ?_)
      · obtain ⟨g, hg⟩ : ∃ g, gs[k]? = some g := ⟨_, List.getElem?_eq_getElem (by omega)⟩
        obtain ⟨si, so, hgc, hri, hro⟩ := hT.get k g hg
        have hgc0 := hgc 0 (.string g.name) rfl
        have hone := tgc_one (s := g) hri.one hro.one
        have hft := filt_take n hg
        have hlk : (filtN (gs.take k) n).length ≤ k := by
          have := List.length_filter_le (fun g : Tg => decide (g.name = n)) (gs.take k)
          rw [List.length_take] at this
          show (List.filter _ _).length ≤ k
          omega
        refine WL.nil ?_
        refine W.condT rfl ?_
        refine W.skip ?_
        refine W.seq (W.block ?_)
        refine W.seq (W.draw (fun w => Hp w0 F Fc [.box b2 z3 26, .dead, ownN ov outs, .dead, .box b11 [.int .i64 0, .int .i64 0, pv] 26, .own pv 49 5 ((sn.take i).flatMap (filtN gs) ++ filtN (gs.take k) n).length ys] w) [] 10 (by kernel_rfl) rfl rfl ?_)
        have hS := h.drewN 1
        refine WD.take 0 rfl (by kernel_rfl) (fun _ _ _ h => fin_panic h) hS Val.mv ?_
        refine WD.take 1 rfl (by kernel_rfl) (fun _ _ _ h => fin_panic h) hS Val.mv ?_
        refine WD.take 2 rfl (by kernel_rfl) (fun _ _ _ h => fin_panic h) hS (Val.ix (i := k) Tryz.underlying24 T49z h5 h13 (hrL.slice (by omega)) (by omega)) ?_
        refine WD.take 3 rfl (by kernel_rfl) (fun _ _ _ h => fin_panic h) hS (Val.fa O49_0z rfl) ?_
        refine WD.take 4 rfl (by kernel_rfl) (fun _ _ _ h => fin_panic h) hS (Val.ldRf A9 hrL (p := k * 5) (j := 0) rfl hgc0) ?_
        refine WD.take 5 rfl (by kernel_rfl) (fun _ _ _ h => fin_panic h) hS Val.mv ?_
        refine WD.take 6 rfl (by kernel_rfl) (fun _ _ _ h => fin_panic h) hS Val.mv ?_
        refine WD.take 7 rfl (by kernel_rfl) (fun _ _ _ h => fin_panic h) hS (Val.ix (i := i) Tryz.underlying41 T9 h10 h12 (hrS.slice (by omega)) (by omega)) ?_
        refine WD.take 8 rfl (by kernel_rfl) (fun _ _ _ h => fin_panic h) hS (Val.ldR A9 hrS rfl (rowS_get hn)) ?_
        refine WD.take 9 rfl (by kernel_rfl) (fun _ _ _ h => fin_panic h) hS (Val.sEq (a := g.name) (b := n) rfl rfl) ?_
        refine WD.dec (fun ce => ?_) (fun ce => ?_)
        · rw [if_pos ce] at hft
          refine WD.nil (by kernel_rfl) ?_
          refine W.condT rfl ?_
          refine W.draw (fun w => Hp w0 F Fc [.box b2 z3 26, .dead, ownN ov outs, .dead, .box b11 [.int .i64 0, .int .i64 0, pv] 26, .own pv 49 5 ((sn.take i).flatMap (filtN gs) ++ filtN (gs.take k) n).length ys] w) [7, 8, 9] 10 (by kernel_rfl) rfl rfl ?_
          have hS := hS.drewN 1
          refine WD.take 0 rfl (by kernel_rfl) (fun _ _ _ h => fin_panic h) hS (Val.fa O26_2z h11) ?_
          refine WD.take 1 rfl (by kernel_rfl) (fun _ _ _ h => fin_panic h) hS (Val.ld 4 A24z rfl rfl rfl) ?_
          refine WD.take 2 rfl (by kernel_rfl) (fun _ _ _ h => fin_panic h) hS Val.mv ?_
          refine WD.take 3 rfl (by kernel_rfl) (fun _ _ _ h => fin_panic h) hS Val.mv ?_
          refine WD.take 4 rfl (by kernel_rfl) (fun _ _ _ h => fin_panic h) hS (Val.ix (i := k) Tryz.underlying24 T49z h5 h13 (hrL.slice (by omega)) (by omega)) ?_
          refine WD.take 5 rfl (by kernel_rfl) (fun _ _ _ h => fin_panic h) hS (Val.ldRS A49z T49z hrL rfl (cs := tgc g si so) rfl hgc) ?_
          refine WD.one 6 rfl (by kernel_rfl) ?_
          refine WL.bs1 hS Tryz.underlying24 T49z (by decide) (cs := tgc g si so) rfl rfl (fun bx w h => ?_)
          refine WL.nil ?_
          refine ⟨h.keep 6, ?_⟩
          refine WD.last 7 rfl (by kernel_rfl) rfl ?_
          refine WL.app 5 h rfl Tryz.underlying24 T49z (by decide) rfl rfl (news := tgc g si so) rfl (box_news h (i := 6) rfl) hone (by simp only [List.length_append]; omega) (by simp only [List.length_append]; omega) (fun pv' w h => ?_)
          have hpv := h.own1 5 rfl
          refine WL.nil ?_
          refine WD.last 8 rfl (by kernel_rfl) rfl ?_
          refine WL.p h (Val.fa O26_2z h11) ?_
          refine WL.nil ?_
          refine WD.last 9 rfl (by kernel_rfl) rfl ?_
          refine WL.st 4 (v := pv') h rfl T24z rfl rfl hpv rfl (fun w h => ?_)
          refine WL.nil ?_
          refine WD.nil (by kernel_rfl) ?_
          have h : Hp w0 F Fc [.box b2 z3 26, .dead, ownN ov outs, .dead, .box b11 [.int .i64 0, .int .i64 0, pv'] 26, .own pv' 49 5 ((sn.take i).flatMap (filtN gs) ++ filtN (gs.take (k + 1)) n).length (ys ++ tgc g si so)] w := (h.keep 6).cast (by rw [hft, ← List.append_assoc, List.length_append (bs := [g])]; rfl)
          have hTy' : TRow Fc ((sn.take i).flatMap (filtN gs) ++ filtN (gs.take (k + 1)) n) (ys ++ tgc g si so) := by
            rw [hft, ← List.append_assoc]
            exact hTy.snoc hri hro
          refine W.region rfl ?_
          refine WL.p h Val.mv ?_
          refine WL.p h (Val.addi (c := ((k + 1 : Nat) : Int)) h13 rfl (by omega)) ?_
          refine WL.p h Val.as ?_
          refine WL.nil ?_
          exact ⟨m' - 1, by omega, k + 1, pv', ys ++ tgc g si so, by omega, h, hTy', h2, h5, h10, h11, h12, rfl⟩
        · rw [if_neg ce, List.append_nil] at hft
          refine WD.nil (by kernel_rfl) ?_
          have h := hS
          refine W.condF rfl ?_
          refine W.skip ?_
          refine W.region rfl ?_
          refine WL.p h Val.mv ?_
          refine WL.p h (Val.addi (c := ((k + 1 : Nat) : Int)) h13 rfl (by omega)) ?_
          refine WL.p h Val.as ?_
          refine WL.nil ?_
          exact ⟨m' - 1, by omega, k + 1, pv, ys, by omega, h.cast (by rw [hft]), by rw [hft]; exact hTy, h2, h5, h10, h11, h12, rfl⟩
      · rw [List.take_of_length_le (show gs.length ≤ k by omega), ← flat_take1 (filtN gs) hn] at h hTy
        refine WL.nil ?_
        refine W.condF rfl ?_
        refine W.exit ?_
        refine W.region rfl ?_
        refine WL.p h Val.mv ?_
        refine WL.p h (Val.addi (c := ((i + 1 : Nat) : Int)) h12 rfl (by omega)) ?_
        refine WL.p h Val.as ?_
        refine WL.nil ?_
        exact ⟨m - 1, by omega, i + 1, pv, ys, by omega, h, hTy, h2, h5, h10, h11, rfl⟩
    · rw [List.take_of_length_le (show sn.length ≤ i by omega)] at h hTy
      have hby : sn.flatMap (filtN gs) = byName gs := by rw [← hsn, hnames]; rfl
      rw [hby] at h hTy
      have hpv := h.own1 5 rfl
      refine WL.nil ?_
      refine W.condF rfl ?_
      refine W.exit ?_
      refine W.seq (W.region rfl ?_)
      refine WL.p h (Val.ldS 4 A26z T26z rfl h11 rfl) ?_
      refine WL.stS 0 h rfl T26z h2 (vs := [.int .i64 0, .int .i64 0, pv]) rfl (three_one hpv) rfl rfl (fun w h => ?_)
      refine WL.nil ?_
      refine W.ret ?_
      obtain ⟨Fd, hsd, h, hrow⟩ := h.freezeRow 5 rfl
      exact finBox h 0 rfl h2 rfl A26z T26z rfl ⟨Fd, pv, ys, by rw [hfin], h.toExt, by rw [hfin]; exact hrow, by rw [hfin]; exact hTy.mono hsd⟩
end Go.Proofs.YtmiihhbgfijcmaaGreat.K

