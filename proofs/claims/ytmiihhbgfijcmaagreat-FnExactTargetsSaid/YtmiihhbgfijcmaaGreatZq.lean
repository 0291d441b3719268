/- Targets: the plan in plain words; sizes; the closures. -/
import Derived.Test.YtmiihhbgfijcmaaGreatZp
namespace Go.Proofs.YtmiihhbgfijcmaaGreat.K
open Go Go.RowKit
set_option linter.unusedVariables false
set_option linter.unusedSimpArgs false
set_option maxRecDepth 20000
/-! ### What is told -/
abbrev Td := ByteArray × List At
structure DRow (F : Fz) (ds : List Td) (xs : List Value) : Prop where
  len : xs.length = ds.length * 2
  get : ∀ (i : Nat) d, ds[i]? = some d → ∃ s, (∀ j u, ([.string d.1, s] : List Value)[j]? = some u → xs[i * 2 + j]? = some u) ∧ FRow F s d.2.length 4 (rowA d.2)
theorem DRow.mono {F G : Fz} {ds : List Td} {xs : List Value} (h : DRow F ds xs) (hs : Sub F G) : DRow G ds xs := ⟨h.len, fun i d hd => by
  obtain ⟨s, h1, h2⟩ := h.get i d hd
  exact ⟨s, h1, h2.mono hs⟩⟩
/-- What the law's arguments are like. -/
structure DOk (ds : List Td) : Prop where
  len : ds.length ≤ 1048576
  lens : ∀ d ∈ ds, d.2.length ≤ 1048576
  txt : ∀ d ∈ ds, ∀ a ∈ d.2, a.t.size ≤ 9223372036854775807
  num : ∀ d ∈ ds, ∀ a ∈ d.2, (Lit.int .i64 a.n).wf = true
theorem inR_of {n : Int} (h : (Lit.int .i64 n).wf = true) : inR n := by
  simp only [Lit.wf, Bool.and_eq_true, decide_eq_true_eq] at h
  have h1 : IntKind.i64.min = -9223372036854775808 := by decide
  have h2 : IntKind.i64.max = 9223372036854775807 := by decide
  unfold inR
  omega
theorem Vt.of {es : List At} {t : T} (h : treeP es = some t) (hn : ∀ a ∈ es, (Lit.int .i64 a.n).wf = true) : Vt t := by
  obtain ⟨rfl, hw, hlen, it, hit, _⟩ := treeP_some h
  exact ⟨hw, hlen, ⟨it, hit⟩, inR_of (hn _ (List.mem_of_getElem? (enc_last t)))⟩
theorem enc_sub {ks : List T} {k : T} (h : k ∈ ks) : ∀ a ∈ k.enc, a ∈ T.encs ks := by
  induction ks with
  | nil => simp at h
  | cons x ks ih =>
    intro a ha
    simp only [T.encs, List.mem_append]
    rcases List.mem_cons.1 h with rfl | h
    · exact .inl ha
    · exact .inr (ih h a ha)
theorem kid_sub {t k : T} (h : k ∈ t.kids) : ∀ a ∈ k.enc, a ∈ t.enc := fun a ha => by
  rw [enc_eq]
  exact List.mem_append_left _ (enc_sub h a ha)
theorem atom_in (t : T) : t.atom ∈ t.enc := List.mem_of_getElem? (enc_last t)
theorem kids_num {es : List At} {t : T} (h : treeP es = some t) (hn : ∀ a ∈ es, (Lit.int .i64 a.n).wf = true) : ∀ k ∈ t.kids, inR k.atom.n := fun k hk => by
  obtain ⟨rfl, _⟩ := treeP_some h
  exact inR_of (hn _ (kid_sub hk _ (atom_in k)))
/-! ### Sizes -/
theorem textA_size {t : T} {n : ByteArray} {need : Bool} {B : Nat} (h : ∀ a ∈ t.enc, a.t.size ≤ B) : (textA t.kids n need).1.size ≤ B := by
  unfold textA
  cases hg : getT t.kids n with
  | none => exact Nat.zero_le _
  | some x => exact h _ (kid_sub (getT_mem _ hg) _ (atom_in x))
theorem listG_in : ∀ (ks : List T) (acc : List ByteArray), (∀ x ∈ (listG ks acc).1, x ∈ acc ∨ ∃ k ∈ ks, x = k.atom.t) ∧ (listG ks acc).1.length ≤ acc.length + ks.length
  | [], acc => by simp [listG]
  | k :: r, acc => by
    rw [listG]
    split
    · exact ⟨fun x hx => .inl hx, by simp⟩
    · obtain ⟨h1, h2⟩ := listG_in r (acc ++ [k.atom.t])
      refine ⟨fun x hx => ?_, by simp at h2 ⊢; omega⟩
      rcases h1 x hx with h | ⟨k', hk, e⟩
      · rcases List.mem_append.1 h with h | h
        · exact .inl h
        · exact .inr ⟨k, by simp, by simpa using h⟩
      · exact .inr ⟨k', by simp [hk], e⟩
theorem listA_in {t : T} {n : ByteArray} {need : Bool} (hv : Vt t) : (∀ x ∈ (listA t.kids n need).1, ∃ a ∈ t.enc, x = a.t) ∧ (listA t.kids n need).1.length ≤ 1000 := by
  unfold listA
  cases hg : getT t.kids n with
  | none => simp
  | some x =>
    have hx := getT_mem _ hg
    simp only
    split
    · simp
    · obtain ⟨h1, h2⟩ := listG_in x.kids []
      refine ⟨fun y hy => ?_, ?_⟩
      · rcases h1 y hy with h | ⟨k, hk, e⟩
        · simp at h
        · exact ⟨_, kid_sub hx _ (kid_sub hk _ (atom_in k)), e⟩
      · have h3 := kids_le x
        have h4 := enc_le_mem hx hv.kids_len
        simp at h2; omega
structure TgOk (g : Tg) : Prop where
  name : g.name.size ≤ 9223372036854775807
  ins : ∀ x ∈ g.ins, x.size ≤ 9223372036854775807
  outs : ∀ x ∈ g.outs, x.size ≤ 9223372036854775807
  nins : g.ins.length ≤ 1000
  nouts : g.outs.length ≤ 1000
theorem tgA_ok {es : List At} {t : T} {g : Tg} (h : treeP es = some t) (hz : ∀ a ∈ es, a.t.size ≤ 9223372036854775807) (hn : ∀ a ∈ es, (Lit.int .i64 a.n).wf = true) (hg : tgA t = some g) : TgOk g := by
  have hv := Vt.of h hn
  obtain ⟨rfl, _⟩ := treeP_some h
  unfold tgA at hg
  split at hg
  · cases hg
  · split at hg
    · cases hg
    · split at hg
      · cases hg
        have l1 := listA_in (n := kIns) (need := false) hv
        have l2 := listA_in (n := kOuts) (need := true) hv
        exact ⟨textA_size hz, fun x hx => by obtain ⟨a, ha, rfl⟩ := l1.1 x hx; exact hz a ha, fun x hx => by obtain ⟨a, ha, rfl⟩ := l2.1 x hx; exact hz a ha, l1.2, l2.2⟩
      · cases hg
/-! ### The plan -/
open Classical in
noncomputable def stepP (names outs : List ByteArray) (es : List At) : Int ⊕ Tg := match treeP es with
  | none => .inl 1
  | some t => match tgA t with
    | none => .inl 2
    | some g => if g.name ∈ names then .inl 3 else if ¬ g.outs.Nodup ∨ ∃ x ∈ g.outs, x ∈ outs then .inl 4 else if ¬ g.ins.Nodup then .inl 5 else .inr g
def srt (g : Tg) : Tg := { g with ins := sortB g.ins, outs := sortB g.outs }
def byName (gs : List Tg) : List Tg := (sortB (gs.map Tg.name)).flatMap fun n => gs.filter fun g => decide (g.name = n)
noncomputable def runP : List Td → Nat → List ByteArray → List ByteArray → List Tg → Pl
  | [], _, _, _, gs => ⟨0, 0, byName gs⟩
  | d :: r, i, names, outs, gs => match stepP names outs d.2 with
    | .inl c => ⟨c, i, []⟩
    | .inr g => runP r (i + 1) (names ++ [g.name]) (outs ++ g.outs) (gs ++ [srt g])
noncomputable def planP (ds : List Td) : Pl := runP ds 0 [] [] []
theorem run_stop {ds : List Td} {j : Nat} {d : Td} {names outs : List ByteArray} {gs : List Tg} {c : Int} {p : Pl} (hr : runP (ds.drop j) j names outs gs = p) (hd : ds[j]? = some d) (hs : stepP names outs d.2 = .inl c) : p = ⟨c, j, []⟩ := by
  rw [drop_at hd, runP, hs] at hr
  exact hr.symm
theorem run_on {ds : List Td} {j : Nat} {d : Td} {names outs : List ByteArray} {gs : List Tg} {g : Tg} {p : Pl} (hr : runP (ds.drop j) j names outs gs = p) (hd : ds[j]? = some d) (hs : stepP names outs d.2 = .inr g) : runP (ds.drop (j + 1)) (j + 1) (names ++ [g.name]) (outs ++ g.outs) (gs ++ [srt g]) = p := by
  rw [drop_at hd, runP, hs] at hr
  exact hr
theorem run_end {ds : List Td} {j : Nat} {names outs : List ByteArray} {gs : List Tg} {p : Pl} (hr : runP (ds.drop j) j names outs gs = p) (hj : ds.length ≤ j) : p = ⟨0, 0, byName gs⟩ := by
  rw [List.drop_eq_nil_of_le hj, runP] at hr
  exact hr.symm
section
variable {names outs : List ByteArray} {es : List At} {t : T} {g : Tg}
theorem step1 (h : treeP es = none) : stepP names outs es = .inl 1 := by rw [stepP, h]
theorem step2 (h : treeP es = some t) (hg : tgA t = none) : stepP names outs es = .inl 2 := by rw [stepP, h]; simp only; rw [hg]
theorem step3 (h : treeP es = some t) (hg : tgA t = some g) (h3 : g.name ∈ names) : stepP names outs es = .inl 3 := by rw [stepP, h]; simp only; rw [hg]; simp only; rw [if_pos h3]
theorem step4 (h : treeP es = some t) (hg : tgA t = some g) (h3 : g.name ∉ names) (h4 : ¬ g.outs.Nodup ∨ ∃ x ∈ g.outs, x ∈ outs) : stepP names outs es = .inl 4 := by rw [stepP, h]; simp only; rw [hg]; simp only; rw [if_neg h3, if_pos h4]
theorem step5 (h : treeP es = some t) (hg : tgA t = some g) (h3 : g.name ∉ names) (h4 : ¬ (¬ g.outs.Nodup ∨ ∃ x ∈ g.outs, x ∈ outs)) (h5 : ¬ g.ins.Nodup) : stepP names outs es = .inl 5 := by rw [stepP, h]; simp only; rw [hg]; simp only; rw [if_neg h3, if_neg h4, if_pos h5]
theorem step6 (h : treeP es = some t) (hg : tgA t = some g) (h3 : g.name ∉ names) (h4 : ¬ (¬ g.outs.Nodup ∨ ∃ x ∈ g.outs, x ∈ outs)) (h5 : ¬ ¬ g.ins.Nodup) : stepP names outs es = .inr g := by rw [stepP, h]; simp only; rw [hg]; simp only; rw [if_neg h3, if_neg h4, if_neg h5]
end
theorem sortB_of_sorted {ns : List ByteArray} (h : ns.Pairwise fun a b => ¬ ltN b a) : sortB ns = ns := by
  have hs : (ns.map fun s => s.data.toList).Pairwise (fun x y => decide (x ≤ y) = true) := by
    refine List.pairwise_map.2 (h.imp fun {p q} hpq => ?_)
    rw [ltN_iff] at hpq
    simp only [decide_eq_true_eq]
    exact List.not_lt.1 hpq
  rw [sortB, List.mergeSort_of_pairwise hs, List.map_map]
  conv => rhs; rw [← List.map_id ns]
  apply List.map_congr_left
  intro a _
  simp
theorem filter_one : ∀ (gs : List Tg), (gs.map Tg.name).Nodup → ∀ g ∈ gs, (gs.filter fun h => decide (h.name = g.name)) = [g]
  | [], _, g, hg => by simp at hg
  | x :: gs, hn, g, hg => by
    have hn' : x.name ∉ gs.map Tg.name ∧ (gs.map Tg.name).Nodup := by simpa using hn
    rcases List.mem_cons.1 hg with rfl | hg
    · have : (gs.filter fun h => decide (h.name = g.name)) = [] := by
        rw [List.filter_eq_nil_iff]
        intro y hy
        simp only [decide_eq_true_eq]
        exact fun e => hn'.1 (List.mem_map.2 ⟨y, hy, e⟩)
      simp [this]
    · have hne : x.name ≠ g.name := fun e => hn'.1 (by rw [e]; exact List.mem_map.2 ⟨g, hg, rfl⟩)
      have ih := filter_one gs hn'.2 g hg
      simp [hne, ih]
theorem byName_uniq {gs gs' : List Tg} (hn : (gs.map Tg.name).Nodup) (hp : gs'.Perm gs) (hs : gs'.Pairwise fun a b => ¬ ltN b.name a.name) : gs' = byName gs := by
  have h1 : sortB (gs.map Tg.name) = gs'.map Tg.name := by
    rw [← sortB_of_perm (hp.map Tg.name)]
    exact sortB_of_sorted (List.pairwise_map.2 hs)
  have h2 : ∀ (l : List Tg), (∀ g ∈ l, g ∈ gs) → (l.map Tg.name).flatMap (fun n => gs.filter fun g => decide (g.name = n)) = l := by
    intro l
    induction l with
    | nil => intro _; rfl
    | cons g l ih =>
      intro h
      rw [List.map_cons, List.flatMap_cons, filter_one gs hn g (h g (by simp)), ih fun x hx => h x (by simp [hx])]
      rfl
  rw [byName, h1, h2 gs' fun g hg => hp.mem_iff.1 hg]
/-! ### The closures -/
theorem C24q : CF Tryz.prog 24 := ⟨_, Tryz.func24, rfl, rfl⟩
theorem C45q : CF Tryz.prog 45 := ⟨_, Tryz.func45, rfl, rfl⟩
theorem C23q : CF Tryz.prog 23 := ⟨_, Tryz.func23, rfl, rfl⟩
theorem C22q : CF Tryz.prog 22 := ⟨_, Tryz.func22, rfl, rfl⟩
theorem C21q : CF Tryz.prog 21 := ⟨_, Tryz.func21, rfl, rfl⟩
theorem C26q : CF Tryz.prog 26 := ⟨_, Tryz.func26, rfl, rfl⟩
theorem in_calls (F : Fz) (w0 : World) (hF : Sub F (hv w0)) {b bm : Nat} {ks : List ByteArray} {s : ByteArray} (hb : F b = some (.cells ([.map (some bm)] : List Value).toArray 56 (0, 0))) (hm : F bm = some (mobj (boolL ks))) (hz : ∀ x ∈ ks, x.size ≤ 9223372036854775807) (hn : ks.Nodup) (hs : s.size ≤ 9223372036854775807) :
    Calls Tryz.prog 24 #[.string s, pt b] w0 fun e w' => e = .returned (.bool (hasB ks s)) ∧ Ext F w0 F w' := by
  have hr : FRow F (.slice (some ⟨b, 0, none⟩) 1 1) 1 1 [.map (some bm)] := box_row hb rfl (by decide)
  refine calls 7 Tryz.func24 rfl rfl rfl ?_
  have h := Hp.start hF
  refine W.seq (W.region rfl ?_)
  refine WL.p h Val.as ?_
  refine WL.nil ?_
  refine W.seq (W.region rfl ?_)
  refine WL.p h (Val.ldR A56z hr rfl (p := 0) rfl) ?_
  refine WL.p h Val.mv ?_
  refine WL.p h (Val.lookupB (ks := ks) (k := s) (fun w h => h.sub _ _ hm) hz hn hs rfl rfl) ?_
  refine WL.p h Val.as ?_
  refine WL.nil ?_
  refine W.ret ?_
  exact fin1 (v := .bool (hasB ks s)) rfl rfl ⟨rfl, h.toExt⟩
theorem index_calls (F : Fz) (w0 : World) (hF : Sub F (hv w0)) {b bm : Nat} {ks : List ByteArray} {v : Value} {ss : List ByteArray} (hb : F b = some (.cells ([.map (some bm)] : List Value).toArray 56 (0, 0))) (hm : F bm = some (mobj (boolL ks))) (hz : ∀ x ∈ ks, x.size ≤ 9223372036854775807) (hn : ks.Nodup) (hs : ∀ x ∈ ss, x.size ≤ 9223372036854775807) (hr : FRow F v ss.length 1 (rowS ss)) :
    Calls Tryz.prog 45 #[v, .func (.func 24) #[] #[pt b]] w0 fun e w' => ∃ i : Int, e = .returned (.int .i64 i) ∧ (0 ≤ i ↔ ∃ x ∈ ss, x ∈ ks) ∧ Ext F w0 F w' := by
  refine calls 19 Tryz.func45 rfl rfl rfl ?_
  have h := Hp.start hF
  have hmax := hr.max
  refine W.seq (W.region rfl ?_)
  refine WL.p h Val.as ?_
  refine WL.nil ?_
  refine W.seq (W.seq (W.region rfl ?_))
  refine WL.p h Val.mv ?_
  refine WL.p h (Val.len Tryz.underlying41 rfl hr.val) ?_
  refine WL.p h Val.mv ?_
  refine WL.nil ?_
  refine W.block ?_
  refine W.loop (fun m R w => ∃ j, m + j = ss.length ∧ Hp w0 F F [] w ∧ (∀ (i : Nat) x, i < j → ss[i]? = some x → x ∉ ks) ∧ R 0 = v ∧ R 1 = .func (.func 24) #[] #[pt b] ∧ R 7 = .int .i64 (ss.length : Int) ∧ R 8 = .int .i64 (j : Int)) ss.length ⟨0, by omega, h, fun i x hi => by omega, rfl, rfl, rfl, rfl⟩ (fun m R w hI => ?_)
  clear h
  obtain ⟨j, hm', h, hno, h0, h1, h7, h8⟩ := hI
  refine W.seq (W.region rfl ?_)
  refine WL.p h (Val.lt h8 h7) ?_
  refine WL.dec (fun c1 => ?_) (fun c1 => ?_)
  · obtain ⟨x, hx⟩ : ∃ x, ss[j]? = some x := ⟨_, List.getElem?_eq_getElem (by omega)⟩
    refine WL.nil ?_
    refine W.seq ?_
    refine W.condT rfl ?_
    refine W.skip ?_
    refine W.seq (W.block ?_)
    refine W.seq (W.region rfl ?_)
    refine WL.p h Val.mv ?_
    refine WL.p h Val.as ?_
    refine WL.nil ?_
    refine W.seq (W.region rfl ?_)
    refine WL.p h Val.mv ?_
    refine WL.p h Val.mv ?_
    refine WL.p h Val.mv ?_
    refine WL.p h (Val.ix (i := j) Tryz.underlying41 T9 h0 h8 (hr.slice (by omega)) (by omega)) ?_
    refine WL.p h (Val.ldR A9 hr rfl (rowS_get hx)) ?_
    refine WL.callC C24q (args := [.string x]) (caps := [pt b]) h1 rfl ((in_calls F _ h.sub hb hm hz hn (hs x (List.mem_of_getElem? hx))).mono ?_)
    rintro e w' ⟨rfl, hE⟩
    have h := h.call hE
    refine ⟨_, rfl, ?_⟩
    refine WL.decB (fun c2 => ?_) (fun c2 => ?_)
    · refine WL.nil ?_
      refine W.condT rfl ?_
      refine W.seq (W.region rfl ?_)
      refine WL.p h Val.mv ?_
      refine WL.p h Val.as ?_
      refine WL.nil ?_
      refine W.ret ?_
      exact fin1 (v := .int .i64 (j : Int)) rfl h8 ⟨_, rfl, ⟨fun _ => ⟨x, List.mem_of_getElem? hx, hasB_iff.1 c2⟩, fun _ => by omega⟩, h.toExt⟩
    · refine WL.nil ?_
      refine W.condF rfl ?_
      refine W.skip ?_
      refine W.region rfl ?_
      refine WL.p h (Val.addi (c := ((j + 1 : Nat) : Int)) h8 rfl (by omega)) ?_
      refine WL.p h Val.mv ?_
      refine WL.nil ?_
      exact ⟨m - 1, by omega, j + 1, by omega, h, fun i y hi hy => by
        by_cases e : i = j
        · subst e; rw [hx] at hy; cases hy; exact fun hm => by rw [hasB_yes hm] at c2; cases c2
        · exact hno i y (by omega) hy, h0, h1, h7, rfl⟩
  · have hall : ¬ ∃ x ∈ ss, x ∈ ks := by
      rintro ⟨x, hx, hk⟩
      obtain ⟨i, hi⟩ := List.mem_iff_getElem?.1 hx
      exact hno i x (by have := (List.getElem?_eq_some_iff.1 hi).1; omega) hi hk
    refine WL.nil ?_
    refine W.seq ?_
    refine W.condF rfl ?_
    refine W.exit ?_
    refine W.seq (W.region rfl ?_)
    refine WL.p h Val.as ?_
    refine WL.nil ?_
    refine W.ret ?_
    exact fin1 (v := .int .i64 (-1)) rfl rfl ⟨_, rfl, ⟨fun h => by omega, fun h => absurd h hall⟩, h.toExt⟩
theorem containsFunc_calls (F : Fz) (w0 : World) (hF : Sub F (hv w0)) {b bm : Nat} {ks : List ByteArray} {v : Value} {ss : List ByteArray} (hb : F b = some (.cells ([.map (some bm)] : List Value).toArray 56 (0, 0))) (hm : F bm = some (mobj (boolL ks))) (hz : ∀ x ∈ ks, x.size ≤ 9223372036854775807) (hn : ks.Nodup) (hs : ∀ x ∈ ss, x.size ≤ 9223372036854775807) (hr : FRow F v ss.length 1 (rowS ss)) :
    Calls Tryz.prog 23 #[v, .func (.func 24) #[] #[pt b]] w0 (PBz F w0 (∃ x ∈ ss, x ∈ ks)) := by
  refine calls 9 Tryz.func23 rfl rfl rfl ?_
  have h := Hp.start hF
  refine W.seq (W.region rfl ?_)
  refine WL.p h Val.as ?_
  refine WL.nil ?_
  refine W.seq (W.region rfl ?_)
  refine WL.p h Val.mv ?_
  refine WL.p h Val.mv ?_
  refine WL.call C45q (args := [v, .func (.func 24) #[] #[pt b]]) rfl ((index_calls F _ h.sub hb hm hz hn hs hr).mono ?_)
  rintro e w' ⟨i, rfl, hi, hE⟩
  have h := h.call hE
  refine ⟨_, rfl, ?_⟩
  refine WL.p h (Val.ge (a := i) (b := 0) rfl rfl) ?_
  refine WL.p h Val.as ?_
  refine WL.nil ?_
  refine W.ret ?_
  exact fin1 (v := .bool (decide (0 ≤ i))) rfl rfl ⟨_, rfl, by rw [decide_eq_true_eq]; exact hi, h.toExt⟩
end Go.Proofs.YtmiihhbgfijcmaaGreat.K

