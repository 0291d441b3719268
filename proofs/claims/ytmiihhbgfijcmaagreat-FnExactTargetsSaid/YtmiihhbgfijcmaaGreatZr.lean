/- Targets: the program's targets, walked. -/
import Derived.Test.YtmiihhbgfijcmaaGreatZq
namespace Go.Proofs.YtmiihhbgfijcmaaGreat.K
open Go Go.RowKit
set_option linter.unusedVariables false
set_option linter.unusedSimpArgs false
set_option maxRecDepth 20000
def z3 : List Value := [.int .i64 0, .int .i64 0, .slice none 0 0]
def PPl (F : Fz) (w0 : World) (p : Pl) (e : Ending) (w : World) : Prop :=
  ∃ (v : Value) (ts : List Tv), e = .returned (.agg ([.int .i64 p.code, .int .i64 p.at', v] : List Value).toArray) ∧ Hp w0 F F (.own v 49 5 ts.length (ts.flatMap tcs) :: ts.flatMap tin) w ∧ ts.map (·.1) = p.gs ∧ (∀ t ∈ ts, OneT t) ∧ ts.length ≤ 1048576
theorem PPl.err {F F' : Fz} {w0 w : World} {L : List Ch} {p : Pl} {c i : Int} (h : Hp w0 F F' L w) (hs : Sub F F') (hp : p = ⟨c, i, []⟩) : PPl F w0 p (.returned (.agg ([.int .i64 c, .int .i64 i, .slice none 0 0] : List Value).toArray)) w := by
  subst hp
  exact ⟨.slice none 0 0, [], rfl, Hp.right (A := L) ((h.weak (Sub.refl _) hs).nilRow 49 5), rfl, by simp, by simp⟩
theorem unpack_no {F : Fz} {w0 : World} (hF : Sub F (hv w0)) {v : Value} {es : List At} (hr : FRow F v es.length 4 (rowA es)) (ht : treeP es = none) : Calls Tryz.prog 20 #[.agg #[v]] w0 fun e w' => ∃ F' u, e = .returned (.tuple #[u, .bool false]) ∧ Ext F w0 F' w' :=
  (unpack_calls F w0 hF v es hr).mono fun e w' ⟨F', u, ok, h1, h2, h3⟩ => by
    rw [treeP_none ht] at h3
    exact ⟨F', u, by rw [h1, h3], h2⟩
theorem unpack_yes {F : Fz} {w0 : World} (hF : Sub F (hv w0)) {v : Value} {es : List At} {t : T} (hr : FRow F v es.length 4 (rowA es)) (ht : treeP es = some t) (hn : ∀ a ∈ es, (Lit.int .i64 a.n).wf = true) : Calls Tryz.prog 20 #[.agg #[v]] w0 fun e w' => ∃ F' u, e = .returned (.tuple #[u, .bool true]) ∧ Ext F w0 F' w' ∧ Arg F' t u :=
  (unpack_calls F w0 hF v es hr).mono fun e w' ⟨F', u, ok, h1, h2, h3⟩ => by
    have hv := Vt.of ht hn
    obtain ⟨_, _, _, it, hit, hu⟩ := treeP_some ht
    rw [hu] at h3
    exact ⟨F', u, by rw [h1, h3.1], h2, hv, it, hit, h3.2⟩
theorem target_none {F : Fz} {w0 : World} (hF : Sub F (hv w0)) {t : T} {a : Value} (ha : Arg F t a) (hn : ∀ k ∈ t.kids, inR k.atom.n) (hg : tgA t = none) : Calls Tryz.prog 21 #[a] w0 fun e w' => ∃ cs : List Value, e = .returned (.tuple #[.agg cs.toArray, .bool false]) ∧ (∀ v ∈ cs, v.oneCell' = true) ∧ cs.length = 5 ∧ Ext F w0 F w' :=
  (target_calls F w0 hF ha hn).mono fun e w' ⟨cs, b, h1, h2, h3, h4⟩ => by
    rw [hg] at h4
    exact ⟨cs, by rw [h1, h4.1], h2, h3, h4.2⟩
theorem target_some {F : Fz} {w0 : World} (hF : Sub F (hv w0)) {t : T} {a : Value} {g : Tg} (ha : Arg F t a) (hn : ∀ k ∈ t.kids, inR k.atom.n) (hg : tgA t = some g) : Calls Tryz.prog 21 #[a] w0 fun e w' => ∃ si so, e = .returned (.tuple #[.agg (tgc g si so).toArray, .bool true]) ∧ Hp w0 F F [ownS si g.ins, ownS so g.outs] w' :=
  (target_calls F w0 hF ha hn).mono fun e w' ⟨cs, b, h1, h2, h3, h4⟩ => by
    rw [hg] at h4
    obtain ⟨h4, si, so, h5, h6⟩ := h4
    exact ⟨si, so, by rw [h1, h4, h5], h6⟩
theorem at1 {f : ByteArray} {s : Value} : ∀ (j : Nat) u, ([s] : List Value)[j]? = some u → ([.string f, s] : List Value)[0 + 1 + j]? = some u := fun j u hu => by
  cases j with
  | zero => simpa using hu
  | succ j => simp at hu
theorem B26v {v : Value} (hv : ∃ A n c, v = .slice A n c) : Tryz.prog.built 26 [(2, v)] = some #[.int .i64 0, .int .i64 0, v] := by
  obtain ⟨A, n, c, rfl⟩ := hv
  exact B26s A n c
theorem three_one {a b : Int} {v : Value} (h : v.oneCell' = true) : ∀ u ∈ ([.int .i64 a, .int .i64 b, v] : List Value), u.oneCell' = true := by
  intro u hu
  simp only [List.mem_cons, List.not_mem_nil, or_false] at hu
  rcases hu with rfl | rfl | rfl
  · rfl
  · rfl
  · exact h
def pL (b2 m1 m2 b4 b5 : Nat) (names outs : List ByteArray) (v : Value) (ts : List Tv) : List Ch :=
  [.box b2 z3 26, .obj m1 (mobj (boolL names)), .obj m2 (mobj (boolL outs)), .box b4 [.map (some m2)] 56, .box b5 [v] 24, .own v 49 5 ts.length (ts.flatMap tcs)]
def pI (w0 : World) (F : Fz) (b2 m1 m2 b4 b5 : Nat) (vt : Value) (ds : List Td) (j : Nat) (R : Regs) (w : World) : Prop :=
  ∃ (names outs : List ByteArray) (v : Value) (ts : List Tv), Hp w0 F F (pL b2 m1 m2 b4 b5 names outs v ts ++ ts.flatMap tin) w ∧ runP (ds.drop j) j names outs (ts.map (·.1)) = planP ds ∧ names.Nodup ∧ outs.Nodup ∧ (∀ x ∈ names, x.size ≤ 9223372036854775807) ∧ (∀ x ∈ outs, x.size ≤ 9223372036854775807) ∧
    names = ts.map (fun t => t.1.name) ∧ ts.length ≤ j ∧ (∀ t ∈ ts, OneT t) ∧ R 2 = pt b2 ∧ R 3 = .map (some m1) ∧ R 4 = pt b4 ∧ R 5 = pt b5 ∧ R 15 = vt ∧ R 16 = .int .i64 (ds.length : Int) ∧ R 17 = .int .i64 (j : Int)
theorem Hp.drop6 {w0 w : World} {F0 F : Fz} {c0 c1 c2 c3 c4 c5 c6 c7 c8 : Ch} {L : List Ch} (h : Hp w0 F0 F ([c0, c1, c2, c3, c4, c5, c6, c7, c8] ++ L) w) : Hp w0 F0 F [c0, c1, c2, c3, c4, c5, c7, c8] w :=
  (h.left.perm (L' := [c0, c1, c2, c3, c4, c5, c7, c8] ++ [c6]) (by
    refine .cons _ (.cons _ (.cons _ (.cons _ (.cons _ (.cons _ ?_)))))
    exact (List.Perm.swap c7 c6 [c8]).trans (.cons c7 (List.Perm.swap c8 c6 [])))).left
theorem owns_sorted {s : Value} {l : List ByteArray} : (.own s 9 1 l.length ((sortB l).map Value.string) : Ch) = ownS s (sortB l) := by
  rw [ownS, sortB_len]; rfl
theorem nodup_app {a b : List ByteArray} (ha : a.Nodup) (hb : b.Nodup) (h : ¬ ∃ x ∈ b, x ∈ a) : (a ++ b).Nodup := List.nodup_append.2 ⟨ha, hb, fun x hx y hy e => h ⟨y, hy, e ▸ hx⟩⟩
theorem fresh_at {a b : List ByteArray} {i : Nat} {x : ByteArray} (h : (a ++ b).Nodup) (hx : b[i]? = some x) : (a ++ b.take i).Nodup ∧ x ∉ a ++ b.take i := by
  obtain ⟨l1, e1⟩ := List.getElem?_eq_some_iff.1 hx
  have hs : ((a ++ b.take i) ++ [x]).Sublist (a ++ b) := by
    have e : (a ++ b.take i) ++ [x] = a ++ b.take (i + 1) := by rw [List.take_succ_eq_append_getElem l1, e1, List.append_assoc]
    rw [e]
    exact (List.Sublist.refl a).append (List.take_sublist _ _)
  have hn := h.sublist hs
  rw [List.nodup_append] at hn
  exact ⟨hn.1, fun hm => hn.2.2 x hm x (by simp) rfl⟩
theorem all_app {a b : List ByteArray} {n : Nat} (ha : ∀ x ∈ a, x.size ≤ n) (hb : ∀ x ∈ b, x.size ≤ n) : ∀ x ∈ a ++ b, x.size ≤ n := fun x hx => (List.mem_append.1 hx).elim (ha x) (hb x)
set_option maxHeartbeats 8000000 in
theorem implTargets_calls (F : Fz) (w0 : World) (hF : Sub F (hv w0)) (vt : Value) (ds : List Td) (xs : List Value) (hr0 : FRow F vt ds.length 2 xs) (hd0 : DRow F ds xs) (hok : DOk ds) : Calls Tryz.prog 7 #[vt] w0 (PPl F w0 (planP ds)) := by
  have hlen := hok.len
  refine calls 93 Tryz.func7 rfl rfl rfl ?_
  have h := Hp.start hF
  refine W.seq (W.region rfl ?_)
  refine WL.alloc h T26z (fun b2 w h => ?_)
  refine WL.nil ?_
  refine W.seq (W.region rfl ?_)
  refine WL.makeMap h (fun m1 w h => ?_)
  refine WL.makeMap h (fun m2 w h => ?_)
  refine WL.alloc h T56z (fun b4 w h => ?_)
  refine WL.p h Val.as ?_
  refine WL.st 3 (v := .map (some m2)) h rfl T56z rfl rfl rfl rfl (fun w h => ?_)
  refine WL.nil ?_
  refine W.seq (W.region rfl ?_)
  refine WL.alloc h T24z (fun b5 w h => ?_)
  refine WL.nil ?_
  have h := h.nilRow 49 5
  refine W.seq (W.seq (W.region rfl ?_))
  refine WL.p h Val.mv ?_
  refine WL.p h (Val.len Tryz.underlying28 rfl hr0.val) ?_
  refine WL.p h Val.mv ?_
  refine WL.nil ?_
  refine W.block ?_
  refine W.loop (fun m R w => ∃ j, m + j = ds.length ∧ pI w0 F b2 m1 m2 b4 b5 vt ds j R w) ds.length ⟨0, by omega, [], [], .slice none 0 0, [], h, rfl, .nil, .nil, by simp, by simp, rfl, by simp, by simp, rfl, rfl, rfl, rfl, rfl, rfl, rfl⟩ (fun m R w hI => ?_)
  clear h
  obtain ⟨j, hm, names, outs, v, ts, h, hrun, hnn, hno, hnz, hoz, hnames, htl, hones, h2, h3, h4, h5, h15, h16, h17⟩ := hI
  refine W.seq (W.region rfl ?_)
  refine WL.p h (Val.lt h17 h16) ?_
  refine WL.dec (fun c => ?_) (fun c => ?_)
  · obtain ⟨d, hd⟩ : ∃ d, ds[j]? = some d := ⟨_, List.getElem?_eq_getElem (by omega)⟩
    have hdm := List.mem_of_getElem? hd
    have hnum := hok.num d hdm
    have htxt := hok.txt d hdm
    obtain ⟨F1, hs1, h, back⟩ := h.lend (A := pL b2 m1 m2 b4 b5 names outs v ts) (B := ts.flatMap tin)
    have hr := hr0.mono hs1
    obtain ⟨s, hcell, hrs⟩ := (hd0.mono hs1).get j d hd
    have hone7 : ∀ v ∈ ([.string d.1, s] : List Value), v.oneCell' = true := by
      intro v hv
      simp only [List.mem_cons, List.not_mem_nil, or_false] at hv
      rcases hv with rfl | rfl
      · rfl
      · exact hrs.one
    refine WL.nil ?_
    refine W.seq ?_
    refine W.condT rfl ?_
    refine W.skip ?_
    refine W.seq (W.block ?_)
    refine W.seq (W.region rfl ?_)
    refine WL.p h Val.mv ?_
    refine WL.p h (Val.ix (i := j) Tryz.underlying28 T47z h15 h17 (hr.slice (by omega)) (by omega)) ?_
    refine WL.p h (Val.ldRS A47z T47z hr rfl (cs := [.string d.1, s]) rfl hcell) ?_
    refine WL.alloc h T47z (fun b7 w h => ?_)
    refine WL.p h Val.as ?_
    refine WL.stS 6 h rfl T47z rfl (vs := [.string d.1, s]) rfl hone7 rfl rfl (fun w h => ?_)
    refine WL.nil ?_
    refine W.seq (W.region rfl ?_)
    refine WL.p h (Val.fa O47_1z rfl) ?_
    refine WL.p h (Val.ldS' 6 A42 T42 rfl rfl (vs := [s]) rfl at1) ?_
    cases ht : treeP d.2 with
    | none =>
      refine WL.call C42 (args := [.agg #[s]]) rfl ((unpack_no h.sub hrs ht).mono ?_)
      rintro e w' ⟨F2, u, rfl, hE⟩
      have h := h.call hE
      refine ⟨_, rfl, ?_⟩
      refine WL.p h Val.mv ?_
      refine WL.p h (Val.ext (v := u) rfl rfl) ?_
      refine WL.p h (Val.ext (v := .bool false) rfl rfl) ?_
      refine WL.p h Val.as ?_
      refine WL.p h Val.as ?_
      refine WL.nil ?_
      refine W.seq (W.seq (W.region rfl ?_))
      refine WL.p h Val.mv ?_
      refine WL.p h (Val.not rfl) ?_
      refine WL.nil ?_
      refine W.condT rfl ?_
      refine W.seq (W.region rfl ?_)
      refine WL.p h Val.mv ?_
      refine WL.p h (Val.build2 rfl h17 (B26c 1 j)) ?_
      refine WL.stS 0 h rfl T26z h2 (vs := [.int .i64 1, .int .i64 j, .slice none 0 0]) rfl (by simp [Value.oneCell']) rfl rfl (fun w h => ?_)
      refine WL.nil ?_
      refine W.ret ?_
      exact finBox h 0 rfl h2 rfl A26z T26z rfl (PPl.err h (hs1.trans hE.ext) (run_stop hrun hd (step1 ht)))
    | some t =>
      refine WL.call C42 (args := [.agg #[s]]) rfl ((unpack_yes h.sub hrs ht hnum).mono ?_)
      rintro e w' ⟨F2, u, rfl, hE, hA⟩
      have hs2 := hs1.trans hE.ext
      have h := h.call hE
      refine ⟨_, rfl, ?_⟩
      refine WL.p h Val.mv ?_
      refine WL.p h (Val.ext (v := u) rfl rfl) ?_
      refine WL.p h (Val.ext (v := .bool true) rfl rfl) ?_
      refine WL.p h Val.as ?_
      refine WL.p h Val.as ?_
      refine WL.nil ?_
      refine W.seq (W.seq (W.region rfl ?_))
      refine WL.p h Val.mv ?_
      refine WL.p h (Val.not rfl) ?_
      refine WL.nil ?_
      refine W.condF rfl ?_
      refine W.skip ?_
      refine W.seq (W.region rfl ?_)
      refine WL.p h Val.mv ?_
      cases hg : tgA t with
      | none =>
        refine WL.call C21q (args := [u]) rfl ((target_none h.sub hA (kids_num ht hnum) hg).mono ?_)
        rintro e w' ⟨cs, rfl, hc1, hcl, hE2⟩
        have h := h.call hE2
        refine ⟨_, rfl, ?_⟩
        refine WL.p h Val.mv ?_
        refine WL.p h (Val.ext (v := .agg cs.toArray) rfl rfl) ?_
        refine WL.p h (Val.ext (v := .bool false) rfl rfl) ?_
        refine WL.alloc h T49z (fun b10 w h => ?_)
        refine WL.stS 7 h rfl T49z rfl (vs := cs) rfl hc1 hcl hcl (fun w h => ?_)
        refine WL.p h Val.as ?_
        refine WL.nil ?_
        refine W.seq (W.seq (W.region rfl ?_))
        refine WL.p h Val.mv ?_
        refine WL.p h (Val.not rfl) ?_
        refine WL.nil ?_
        refine W.condT rfl ?_
        refine W.seq (W.region rfl ?_)
        refine WL.p h Val.mv ?_
        refine WL.p h (Val.build2 rfl h17 (B26c 2 j)) ?_
        refine WL.stS 0 h rfl T26z h2 (vs := [.int .i64 2, .int .i64 j, .slice none 0 0]) rfl (by simp [Value.oneCell']) rfl rfl (fun w h => ?_)
        refine WL.nil ?_
        refine W.ret ?_
        exact finBox h 0 rfl h2 rfl A26z T26z rfl (PPl.err h hs2 (run_stop hrun hd (step2 ht hg)))
      | some g =>
        have hgo := tgA_ok ht htxt hnum hg
        refine WL.call C21q (args := [u]) rfl ((target_some h.sub hA (kids_num ht hnum) hg).mono ?_)
        rintro e w' ⟨si, so, rfl, hp⟩
        have h := h.takeL hp
        have hsi := h.own1 7 rfl
        have hso := h.own1 8 rfl
        have hone := tgc_one (s := g) hsi hso
        refine ⟨_, rfl, ?_⟩
        refine WL.p h Val.mv ?_
        refine WL.p h (Val.ext (v := .agg (tgc g si so).toArray) rfl rfl) ?_
        refine WL.p h (Val.ext (v := .bool true) rfl rfl) ?_
        refine WL.alloc h T49z (fun b10 w h => ?_)
        refine WL.stS 9 h rfl T49z rfl (vs := tgc g si so) rfl hone rfl rfl (fun w h => ?_)
        refine WL.p h Val.as ?_
        refine WL.nil ?_
        refine W.seq (W.seq (W.region rfl ?_))
        refine WL.p h Val.mv ?_
        refine WL.p h (Val.not rfl) ?_
        refine WL.nil ?_
        refine W.condF rfl ?_
        refine W.skip ?_
        refine W.seq (W.seq (W.region rfl ?_))
        refine WL.p h Val.mv ?_
        refine WL.p h (Val.fa O49_0z rfl) ?_
        refine WL.p h (Val.ld 9 A9 rfl rfl rfl) ?_
        refine WL.p h (Val.lookupB (ks := names) (k := g.name) (fun w h => h.holds 1 _ rfl) hnz hnn hgo.name h3 rfl) ?_
        refine WL.decB (fun c3 => ?_) (fun c3 => ?_)
        · refine WL.nil ?_
          refine W.condT rfl ?_
          refine W.seq (W.region rfl ?_)
          refine WL.p h Val.mv ?_
          refine WL.p h (Val.build2 rfl h17 (B26c 3 j)) ?_
          refine WL.stS 0 h rfl T26z h2 (vs := [.int .i64 3, .int .i64 j, .slice none 0 0]) rfl (by simp [Value.oneCell']) rfl rfl (fun w h => ?_)
          refine WL.nil ?_
          refine W.ret ?_
          exact finBox h 0 rfl h2 rfl A26z T26z rfl (PPl.err h hs2 (run_stop hrun hd (step3 ht hg (hasB_iff.1 c3))))
        have hc3 : g.name ∉ names := fun hm => by rw [hasB_yes hm] at c3; cases c3
        refine WL.nil ?_
        refine W.condF rfl ?_
        refine W.skip ?_
        refine W.seq (W.region rfl ?_)
        refine WL.p h Val.mv ?_
        refine WL.p h (Val.fa O49_0z rfl) ?_
        refine WL.p h (Val.ld 9 A9 rfl rfl rfl) ?_
        refine WL.mapUp (k := g.name) (v := .bool true) 1 h rfl Tryz.underlying56 Tryz.underlying9 (boolL_B hnz) (boolL_N hnn) h3 rfl rfl hgo.name (fun w h => ?_)
        have h : Hp w0 F F2 (pL b2 m1 m2 b4 b5 (names ++ [g.name]) outs v ts ++ [.box b7 [.string d.1, s] 47, ownS si g.ins, ownS so g.outs, .box b10 (tgc g si so) 49]) w := h.cast (by rw [updM_bool hc3]; rfl)
        refine WL.nil ?_
        refine W.seq (W.seq (W.region rfl ?_))
        refine WL.p h (Val.fa O49_4z rfl) ?_
        refine WL.p h (Val.ld 9 A24 rfl rfl rfl) ?_
        refine WL.call C22q (args := [so]) rfl ((twice_calls (hv _) _ (Sub.refl _) so g.outs (h.row 8 rfl) hgo.outs).mono ?_)
        rintro e w' ⟨bt, rfl, hbt, hE3⟩
        have h := h.below_step hE3.below
        refine ⟨_, rfl, ?_⟩
        refine WL.p h Val.mv ?_
        cases bt with
        | true =>
          refine WL.no rfl (WL.no rfl (WL.no rfl (WL.no rfl (?_))))
          refine WL.p h (Val.pick rfl) ?_
          refine WL.nil ?_
          refine W.condT rfl ?_
          refine W.seq (W.region rfl ?_)
          refine WL.p h Val.mv ?_
          refine WL.p h (Val.build2 rfl h17 (B26c 4 j)) ?_
          refine WL.stS 0 h rfl T26z h2 (vs := [.int .i64 4, .int .i64 j, .slice none 0 0]) rfl (by simp [Value.oneCell']) rfl rfl (fun w h => ?_)
          refine WL.nil ?_
          refine W.ret ?_
          exact finBox h 0 rfl h2 rfl A26z T26z rfl (PPl.err h hs2 (run_stop hrun hd (step4 ht hg hc3 (.inl (hbt.1 rfl)))))
        | false =>
          have hnd : g.outs.Nodup := Decidable.not_not.1 (fun hn => by cases hbt.2 hn)
          refine WL.p h (Val.fa O49_4z rfl) ?_
          refine WL.p h (Val.ld 9 A24 rfl rfl rfl) ?_
          refine WL.p h (Val.clo (caps := [pt b4]) (congrArg (fun x => [x]) h4)) ?_
          refine WL.call C23q (args := [so, .func (.func 24) #[] #[pt b4]]) rfl ((containsFunc_calls (hv _) _ (Sub.refl _) (h.holds 3 _ rfl) (h.holds 2 _ rfl) hoz hno hgo.outs (h.row 8 rfl)).mono ?_)
          rintro e w' ⟨bc, rfl, hbc, hE4⟩
          have h := h.below_step hE4.below
          refine ⟨_, rfl, ?_⟩
          cases bc with
          | true =>
            refine WL.p h (Val.pick rfl) ?_
            refine WL.nil ?_
            refine W.condT rfl ?_
            refine W.seq (W.region rfl ?_)
            refine WL.p h Val.mv ?_
            refine WL.p h (Val.build2 rfl h17 (B26c 4 j)) ?_
            refine WL.stS 0 h rfl T26z h2 (vs := [.int .i64 4, .int .i64 j, .slice none 0 0]) rfl (by simp [Value.oneCell']) rfl rfl (fun w h => ?_)
            refine WL.nil ?_
            refine W.ret ?_
            exact finBox h 0 rfl h2 rfl A26z T26z rfl (PPl.err h hs2 (run_stop hrun hd (step4 ht hg hc3 (.inr (hbc.1 rfl)))))
          | false =>
            have hdis : ¬ ∃ x ∈ g.outs, x ∈ outs := fun hn => by cases hbc.2 hn
            have hc4 : ¬ (¬ g.outs.Nodup ∨ ∃ x ∈ g.outs, x ∈ outs) := fun hn => hn.elim (fun hn => hn hnd) hdis
            have hnd2 := nodup_app hno hnd hdis
            refine WL.p h (Val.pick rfl) ?_
            refine WL.nil ?_
            refine W.condF rfl ?_
            refine W.skip ?_
            refine W.seq (W.seq (W.region rfl ?_))
            refine WL.p h (Val.fa O49_4z rfl) ?_
            refine WL.p h (Val.ld 9 A24 rfl rfl rfl) ?_
            refine WL.p h (Val.len Tryz.underlying41 rfl (h.row 8 rfl).val) ?_
            refine WL.p h Val.mv ?_
            refine WL.nil ?_
            refine W.block ?_
            refine W.loop (fun m R w => ∃ i, m + i = g.outs.length ∧ Hp w0 F F2 (pL b2 m1 m2 b4 b5 (names ++ [g.name]) (outs ++ g.outs.take i) v ts ++ [.box b7 [.string d.1, s] 47, ownS si g.ins, ownS so g.outs, .box b10 (tgc g si so) 49]) w ∧ R 2 = pt b2 ∧ R 3 = .map (some m1) ∧ R 4 = pt b4 ∧ R 5 = pt b5 ∧ R 6 = .int .i64 (j : Int) ∧ R 10 = pt b10 ∧ R 15 = vt ∧ R 16 = .int .i64 (ds.length : Int) ∧ R 17 = .int .i64 (j : Int) ∧ R 62 = so ∧ R 63 = .int .i64 (g.outs.length : Int) ∧ R 64 = .int .i64 (i : Int)) g.outs.length ⟨0, by omega, h.cast (by simp), h2, h3, h4, h5, h17, rfl, h15, h16, h17, rfl, rfl, rfl⟩ (fun m' R w hI => ?_)
            clear h h2 h3 h4 h5 h15 h16 h17
            obtain ⟨i, hi, h, h2, h3, h4, h5, h6, h10, h15, h16, h17, h62, h63, h64⟩ := hI
            refine W.seq (W.region rfl ?_)
            refine WL.p h (Val.lt h64 h63) ?_
            refine WL.dec (fun c5 => ?_) (fun c5 => ?_)
            · obtain ⟨x, hx⟩ : ∃ x, g.outs[i]? = some x := ⟨_, List.getElem?_eq_getElem (by omega)⟩
              obtain ⟨f1, f2⟩ := fresh_at hnd2 hx
              have hnu := hgo.nouts
              have hxz := hgo.outs x (List.mem_of_getElem? hx)
              have hoz2 := all_app hoz (fun x hx => hgo.outs x (List.mem_of_mem_take hx : x ∈ g.outs)) (b := g.outs.take i)
              have hst : (outs ++ g.outs.take i) ++ [x] = outs ++ g.outs.take (i + 1) := by
                obtain ⟨l1, e1⟩ := List.getElem?_eq_some_iff.1 hx
                rw [List.take_succ_eq_append_getElem l1, e1, List.append_assoc]
              refine WL.nil ?_
              refine W.seq ?_
              refine W.condT rfl ?_
              refine W.skip ?_
              refine W.seq (W.block ?_)
              refine W.seq (W.region rfl ?_)
              refine WL.p h (Val.ix (i := i) Tryz.underlying41 T9 h62 h64 ((h.row 8 rfl).slice (by omega)) (by omega)) ?_
              refine WL.p h (Val.ldO 8 A9 rfl rfl (rowS_get hx)) ?_
              refine WL.p h Val.as ?_
              refine WL.nil ?_
              refine W.region rfl ?_
              refine WL.p h (Val.ld 3 A56z rfl h4 rfl) ?_
              refine WL.p h Val.mv ?_
              refine WL.mapUp (k := x) (v := .bool true) 2 h rfl Tryz.underlying56 Tryz.underlying9 (boolL_B hoz2) (boolL_N f1) rfl rfl rfl hxz (fun w h => ?_)
              have h : Hp w0 F F2 (pL b2 m1 m2 b4 b5 (names ++ [g.name]) (outs ++ g.outs.take (i + 1)) v ts ++ [.box b7 [.string d.1, s] 47, ownS si g.ins, ownS so g.outs, .box b10 (tgc g si so) 49]) w := h.cast (by rw [updM_bool f2, hst]; rfl)
              refine WL.nil ?_
              refine W.region rfl ?_
              refine WL.p h (Val.addi (c := ((i + 1 : Nat) : Int)) h64 rfl (by omega)) ?_
              refine WL.p h Val.mv ?_
              refine WL.nil ?_
              exact ⟨m' - 1, by omega, i + 1, by omega, h, h2, h3, h4, h5, h6, h10, h15, h16, h17, h62, h63, rfl⟩
            · rw [List.take_of_length_le (show g.outs.length ≤ i by omega)] at h
              refine WL.nil ?_
              refine W.seq ?_
              refine W.condF rfl ?_
              refine W.exit ?_
              refine W.seq (W.seq (W.region rfl ?_))
              refine WL.p h (Val.fa O49_3z h10) ?_
              refine WL.p h (Val.ld 9 A24 rfl rfl rfl) ?_
              refine WL.call C22q (args := [si]) rfl ((twice_calls (hv _) _ (Sub.refl _) si g.ins (h.row 7 rfl) hgo.ins).mono ?_)
              rintro e w' ⟨bi, rfl, hbi, hE5⟩
              have h := h.below_step hE5.below
              refine ⟨_, rfl, ?_⟩
              cases bi with
              | true =>
                refine WL.nil ?_
                refine W.condT rfl ?_
                refine W.seq (W.region rfl ?_)
                refine WL.p h Val.mv ?_
                refine WL.p h (Val.build2 rfl h6 (B26c 5 j)) ?_
                refine WL.stS 0 h rfl T26z h2 (vs := [.int .i64 5, .int .i64 j, .slice none 0 0]) rfl (by simp [Value.oneCell']) rfl rfl (fun w h => ?_)
                refine WL.nil ?_
                refine W.ret ?_
                exact finBox h 0 rfl h2 rfl A26z T26z rfl (PPl.err h hs2 (run_stop hrun hd (step5 ht hg hc3 hc4 (hbi.1 rfl))))
              | false =>
                have hc5 : ¬ ¬ g.ins.Nodup := fun hn => by cases hbi.2 hn
                have hnx := run_on hrun hd (step6 ht hg hc3 hc4 hc5)
                have hni := hgo.nins
                have hnu := hgo.nouts
                refine WL.nil ?_
                refine W.condF rfl ?_
                refine W.skip ?_
                refine W.seq (W.region rfl ?_)
                refine WL.p h (Val.fa O49_3z h10) ?_
                refine WL.p h (Val.ld 9 A24 rfl rfl rfl) ?_
                refine WL.call C106 (args := [si]) rfl ((sort_calls h 7 rfl (by omega)).mono ?_)
                rintro e w' ⟨rfl, h⟩
                rw [owns_sorted] at h
                refine ⟨_, rfl, ?_⟩
                refine WL.nil ?_
                refine W.seq (W.region rfl ?_)
                refine WL.p h (Val.fa O49_4z h10) ?_
                refine WL.p h (Val.ld 9 A24 rfl rfl rfl) ?_
                refine WL.call C106 (args := [so]) rfl ((sort_calls h 8 rfl (by omega)).mono ?_)
                rintro e w' ⟨rfl, h⟩
                rw [owns_sorted] at h
                refine ⟨_, rfl, ?_⟩
                refine WL.nil ?_
                refine W.region rfl ?_
                refine WL.p h (Val.ld 4 A24z rfl h5 rfl) ?_
                refine WL.p h (Val.ldS 9 A49z T49z rfl h10 rfl) ?_
                refine WL.bs1 h Tryz.underlying24 T49z (by decide) (cs := tgc g si so) rfl rfl (fun bx w h => ?_)
                refine WL.app 5 h rfl Tryz.underlying24 T49z (by decide) rfl rfl (news := tgc g si so) rfl (box_news h (i := 10) rfl) hone (by omega) (by omega) (fun v' w h => ?_)
                have hv1 := h.own1 5 rfl
                refine WL.st 4 (v := v') h rfl T24z h5 rfl hv1 rfl (fun w h => ?_)
                refine WL.nil ?_
                have h6x := Hp.drop6 (L := [.box b10 (tgc g si so) 49, .box bx (tgc g si so) 49]) h
                have hbk := back _ _ (h6x.weak hs1 hE.ext)
                have hT : ∀ t ∈ ts ++ [(srt g, si, so)], OneT t := fun t ht => (List.mem_append.1 ht).elim (hones t) (fun ht => by rw [List.mem_singleton] at ht; subst ht; exact ⟨⟨hsi, hso⟩, by show (sortB g.ins).length ≤ 1000; rw [sortB_len]; omega, by show (sortB g.outs).length ≤ 1000; rw [sortB_len]; omega⟩)
                have hfl : (ts ++ [(srt g, si, so)]).flatMap tcs = ts.flatMap tcs ++ tgc g si so := by simp [tcs, tgc, srt]
                have hfi : ((ts ++ [(srt g, si, so)]).flatMap tin).Perm ([ownS si (sortB g.ins), ownS so (sortB g.outs)] ++ ts.flatMap tin) := by
                  rw [List.flatMap_append]
                  exact List.perm_append_comm.trans (by simp [tin, srt])
                have hfin : Hp w0 F F (pL b2 m1 m2 b4 b5 (names ++ [g.name]) (outs ++ g.outs) v' (ts ++ [(srt g, si, so)]) ++ (ts ++ [(srt g, si, so)]).flatMap tin) w := by
                  have e : pL b2 m1 m2 b4 b5 (names ++ [g.name]) (outs ++ g.outs) v' (ts ++ [(srt g, si, so)]) = [.box b2 z3 26, .obj m1 (mobj (boolL (names ++ [g.name]))), .obj m2 (mobj (boolL (outs ++ g.outs))), .box b4 [.map (some m2)] 56, .box b5 [v'] 24, .own v' 49 5 (ts.length + 1) (ts.flatMap tcs ++ tgc g si so)] := by
                    rw [pL, hfl, List.length_append]; rfl
                  rw [e]
                  exact Hp.permA hfi.symm _ hbk
                refine W.region rfl ?_
                refine WL.p h (Val.addi (c := ((j + 1 : Nat) : Int)) h17 rfl (by omega)) ?_
                refine WL.p h Val.mv ?_
                refine WL.nil ?_
                exact ⟨m - 1, by omega, j + 1, by omega, names ++ [g.name], outs ++ g.outs, v', ts ++ [(srt g, si, so)], hfin, by rw [List.map_append]; exact hnx, nodup_app hnn (List.pairwise_singleton _ _) (fun ⟨x, hx, hm⟩ => by rw [List.mem_singleton] at hx; subst hx; exact hc3 hm), hnd2, all_app hnz (fun x hx => by rw [List.mem_singleton] at hx; subst hx; exact hgo.name), all_app hoz hgo.outs, by rw [List.map_append, hnames]; rfl, by simp; omega, hT, h2, h3, h4, h5, h15, h16, rfl⟩
  · have hfin := run_end hrun (show ds.length ≤ j by omega)
    refine WL.nil ?_
    refine W.seq ?_
    refine W.condF rfl ?_
    refine W.exit ?_
    refine W.seq (W.region rfl ?_)
    refine WL.p h (Val.ld 4 A24z rfl h5 rfl) ?_
    refine WL.p h (Val.mkI (by kernel_rfl) rfl) ?_
    refine WL.p h (Val.clo (caps := [pt b5]) (congrArg (fun x => [x]) h5)) ?_
    refine WL.call C26q (args := [.iface 24 v, .func (.func 27) #[] #[pt b5]]) rfl ((sortT_calls h 5 4 rfl rfl (by decide) hones (by omega)).mono ?_)
    rintro e w' ⟨rfl, ts', hperm, hsort, h⟩
    have hvs := (h.row 5 rfl).val
    have hv1 := h.own1 5 rfl
    refine ⟨_, rfl, ?_⟩
    refine WL.nil ?_
    refine W.seq (W.region rfl ?_)
    refine WL.p h (Val.ld 4 A24z rfl h5 rfl) ?_
    refine WL.p h (Val.build1 rfl (B26v (by obtain ⟨A, c, e, _⟩ := hvs; exact ⟨A, _, c, e⟩))) ?_
    refine WL.stS 0 h rfl T26z h2 (vs := [.int .i64 0, .int .i64 0, v]) rfl (three_one hv1) rfl rfl (fun w h => ?_)
    refine WL.nil ?_
    refine W.ret ?_
    refine finBox h 0 rfl h2 rfl A26z T26z rfl ?_
    have hgs : ts'.map (·.1) = byName (ts.map (·.1)) := by
      refine byName_uniq ?_ (hperm.map _) (List.pairwise_map.2 hsort)
      rw [List.map_map]
      exact hnames ▸ hnn
    have hh : Hp w0 F F (.own v 49 5 ts'.length (ts'.flatMap tcs) :: ts.flatMap tin) w := Hp.right (A := [_, _, _, _, _]) h
    exact ⟨v, ts', by rw [hfin], Hp.permA (hperm.symm.flatMap_right tin) [_] hh, by rw [hfin]; exact hgs, fun t ht => hones t (hperm.mem_iff.1 ht), by have := hperm.length_eq; omega⟩
end Go.Proofs.YtmiihhbgfijcmaaGreat.K

