/- Put together from O9, Oa, Oz. -/
import Derived.Test.YtmiihhbgfijcmaaOn
import Derived.Test.YtmiihhbgfijcmaaSs
import Derived.Test.YtmiihhbgfijcmaaSh
/- Op: the program, walked: in. -/
namespace Go.Proofs.Ytmiihhbgfijcmaa.K
open Go Go.RowKit
set_option linter.unusedVariables false
set_option linter.unusedSimpArgs false
set_option maxRecDepth 20000
theorem C90 : CF Try.prog 90 := ⟨_, Try.func90, rfl, rfl⟩
theorem C91 : CF Try.prog 91 := ⟨_, Try.func91, rfl, rfl⟩
theorem kid_arg {F : Fz} {t x : T} {a : Value} (ha : Arg F t a) {k : List It} {us : List Value} (hk : evalTs t.kids = some k) (hrs : Reps F (k.map It.v) us) {j : Nat} (hx : t.kids[j]? = some x) : ∃ s it, us[j]? = some s ∧ x.Wf ∧ evalT x = some it ∧ Rep F it.v s := by
  obtain ⟨it, h2, h1⟩ := evalTs_get hk _ _ hx
  have h3 : (k.map It.v)[j]? = some it.v := by rw [List.getElem?_map, h2]; rfl
  obtain ⟨s, h4, h5⟩ := hrs.get h3
  exact ⟨s, it, h4, ha.vt.kid_wf _ (List.mem_of_getElem? hx), h1, h5⟩
theorem ordk_calls (F : Fz) (w0 : World) (hF : Sub F (hv w0)) {x u : T} {it : It} {s b : Value} (hw : x.Wf) (h1 : evalT x = some it) (h2 : Rep F it.v s) (hb : Arg F u b) : Calls Try.prog 45 #[s, b] w0 (PI F w0 (ordT x u)) := by
  obtain ⟨iu, h3, h4⟩ := hb.ev
  exact order_calls _ F w0 hF x u it iu s b hw hb.vt.wf h1 h3 h2 h4 rfl
theorem Arg.y9 {F : Fz} {t : T} {a : Value} (h : Arg F t a) (e : t.atom.k = 4) : a = .iface 9 (.string t.atom.t) := h.v9.elim (fun h => h.2.2) (fun h => absurd e h.1)
theorem Arg.s9 {F : Fz} {t : T} {a : Value} (h : Arg F t a) (e : t.atom.k = 4) : t.atom.t.size ≤ 1000 := h.v9.elim (fun h => h.2.1) (fun h => absurd e h.1)
theorem Arg.n9 {F : Fz} {t : T} {a : Value} (h : Arg F t a) (e : t.atom.k ≠ 4) : NT 9 a := h.v9.elim (fun h => absurd h.1 e) (fun h => h.2)
theorem Arg.n110 {F : Fz} {t : T} {a : Value} (h : Arg F t a) (e : t.atom.k ≠ 5) : NT 110 a := h.v110.elim (fun h => absurd h.1 e) (fun h => h.2)
theorem Arg.n112 {F : Fz} {t : T} {a : Value} (h : Arg F t a) (e : t.atom.k ≠ 6) : NT 112 a := h.v112.elim (fun h => absurd h.1 e) (fun h => h.2)
theorem rec_one {F : Fz} {t : T} {x y : Value} {D : AL En} (hD : RD F t x y D) : ∀ v ∈ [x, y], v.oneCell' = true := by
  obtain ⟨A, c, rfl, _⟩ := hD.rowX.val
  obtain ⟨A', c', rfl, _⟩ := hD.rowY.val
  simp [Value.oneCell']
theorem any_no {ks : List T} {u : T} {j : Nat} (hj : ks.length ≤ j) (hno : ∀ (i : Nat) x, i < j → ks[i]? = some x → ordT x u ≠ 0) : (ks.any fun k => decide (ordT k u = 0)) = false := by
  rw [List.any_eq_false]
  intro x hx
  obtain ⟨i, hi⟩ := List.mem_iff_getElem?.1 hx
  simp [hno i x (by have := (List.getElem?_eq_some_iff.1 hi).1; omega) hi]
theorem getT_flat (s : ByteArray) : ∀ (D : AL En), (getT (flatA (trees D)) s).isSome = Lib.containsS (D.map (·.1)) s
  | [] => rfl
  | p :: D => by
    have ih := getT_flat s D
    have e : flatA (trees (p :: D)) = tNode p.1 :: p.2.1 :: flatA (trees D) := by simp [flatA, trees]
    rw [Bool.eq_iff_iff, Lib.containsS_iff] at ih ⊢
    rw [e, getT, List.map_cons, List.mem_cons, ← ih]
    by_cases h : p.1 = s
    · have h' : (tNode p.1).atom.t = s := h
      rw [if_pos h']
      simp [h]
    · have h' : ¬ (tNode p.1).atom.t = s := h
      have h2 : ¬ s = p.1 := fun e => h e.symm
      rw [if_neg h']
      simp [h2]
theorem has_rec {F : Fz} {t : T} {x y : Value} {D : AL En} (hD : RD F t x y D) {s : ByteArray} : (getT t.kids s).isSome = Lib.containsS (D.map (·.1)) s := by rw [hD.kids, getT_flat]
theorem contains_calls (F : Fz) (w0 : World) (hF : Sub F (hv w0)) (x : Value) (ns : List ByteArray) (hr : FRow F x ns.length 1 (ns.map Value.string)) (s : ByteArray) : Calls Try.prog 91 #[x, .string s] w0 fun e w' => e = .returned (.bool (Lib.containsS ns s)) ∧ Ext F w0 F w' := by
  have h0 : Ext F w0 F w0 := (Hp.start hF).toExt
  by_cases hn : ns.length = 0
  · obtain ⟨A, c, rfl, _⟩ := hr.val
    obtain rfl := List.eq_nil_of_length_eq_zero hn
    refine (Sh.Try.slices_Contains_string_empty A c s w0).mono ?_
    rintro e w' ⟨rfl, rfl⟩
    exact ⟨rfl, h0⟩
  · obtain ⟨c, hc⟩ := hr.slice (by omega)
    have hl := hr.max
    rw [hc]
    refine (Sh.Try.slices_Contains_string (sblk x) (soff x) ns.length c ns s w0 (Nat.le_refl _) (by omega) (fun j hj => ?_)).mono ?_
    · have hj' : (ns.map Value.string)[j]? = some (.string (ns.getD j ByteArray.empty)) := by
        rw [List.getElem?_map, List.getD_eq_getElem?_getD, List.getElem?_eq_getElem hj]; rfl
      exact hr.cell hF hj'
    · rintro e w' ⟨rfl, rfl⟩
      rw [List.take_length]
      exact ⟨rfl, h0⟩
set_option maxHeartbeats 4000000 in
theorem op9t_calls (F : Fz) (w0 : World) (hF : Sub F (hv w0)) (m : Int) (hz : ∀ w, Sub F (hv w) → w.cell? ⟨0, 0, none⟩ = some (.int .i64 m)) {a b : Value} {t u : T} (ha : Arg F t a) (hb : Arg F u b) (k4 : t.atom.k = 4) : Calls Try.prog 61 #[.int .i64 9, a, b] w0 (PVA F w0 (opT 9 t u)) := by
  have hsz := ha.s9 k4
  have hav := ha.y9 k4
  refine calls 371 Try.func61 rfl rfl rfl ?_
  have h := Hp.start hF
  refine W.seq (W.region rfl ?_)
  refine WL.p h Val.as ?_
  refine WL.p h Val.as ?_
  refine WL.nil ?_
  refine W.seq (W.seq (W.region rfl ?_))
  refine WL.p h Val.mv ?_
  refine WL.p h (Val.lt (a := 9) (b := 1) rfl rfl) ?_
  refine WL.p h Val.mv ?_
  refine WL.p h Val.mv ?_
  refine WL.p h (Val.gt (a := 9) (b := 14) rfl rfl) ?_
  refine WL.p h (Val.pick rfl) ?_
  refine WL.nil ?_
  refine W.condF rfl ?_
  refine W.skip ?_
  refine W.seq (W.seq (W.region rfl ?_))
  refine WL.p h Val.mv ?_
  refine WL.nil ?_
  refine W.block ?_
  refine W.seq (W.region rfl ?_)
  refine WL.p h (Val.eq (a := 9) (b := 3) rfl rfl) ?_
  refine WL.p h Val.as ?_
  refine WL.nil ?_
  refine W.condF rfl ?_
  refine W.seq (W.region rfl ?_)
  refine WL.p h (Val.eq (a := 9) (b := 4) rfl rfl) ?_
  refine WL.p h Val.as ?_
  refine WL.nil ?_
  refine W.condF rfl ?_
  refine W.seq (W.seq (W.region rfl ?_))
  refine WL.p h (Val.eq (a := 9) (b := 5) rfl rfl) ?_
  refine WL.p h Val.as ?_
  refine WL.nil ?_
  refine W.condF rfl ?_
  refine W.seq (W.region rfl ?_)
  refine WL.p h (Val.eq (a := 9) (b := 6) rfl rfl) ?_
  refine WL.p h Val.as ?_
  refine WL.nil ?_
  refine W.condF rfl ?_
  refine W.seq (W.region rfl ?_)
  refine WL.p h (Val.eq (a := 9) (b := 7) rfl rfl) ?_
  refine WL.p h Val.as ?_
  refine WL.nil ?_
  refine W.condF rfl ?_
  refine W.region rfl ?_
  refine WL.p h (Val.eq (a := 9) (b := 8) rfl rfl) ?_
  refine WL.p h Val.as ?_
  refine WL.nil ?_
  refine W.condF rfl ?_
  refine W.seq (W.seq (W.region rfl ?_))
  refine WL.p h (Val.eq (a := 9) (b := 1) rfl rfl) ?_
  refine WL.p h Val.as ?_
  refine WL.nil ?_
  refine W.condF rfl ?_
  refine W.region rfl ?_
  refine WL.p h (Val.eq (a := 9) (b := 2) rfl rfl) ?_
  refine WL.p h Val.as ?_
  refine WL.nil ?_
  refine W.condF rfl ?_
  refine W.seq (W.region rfl ?_)
  refine WL.p h (Val.eq (a := 9) (b := 9) rfl rfl) ?_
  refine WL.p h Val.as ?_
  refine WL.nil ?_
  refine W.condT rfl ?_
  refine W.seq (W.seq (W.region rfl ?_))
  refine WL.p h Val.mv ?_
  refine WL.nil ?_
  refine W.block ?_
  refine W.seq (W.region rfl ?_)
  refine WL.p h (Val.taY N9 hav) ?_
  refine WL.p h (Val.ext rfl rfl) ?_
  refine WL.p h (Val.ext rfl rfl) ?_
  refine WL.nil ?_
  refine W.condT rfl ?_
  refine W.seq (W.region rfl ?_)
  refine WL.p h Val.as ?_
  refine WL.nil ?_
  by_cases u4 : u.atom.k = 4
  · refine W.seq (W.region rfl ?_)
    refine WL.p h Val.mv ?_
    refine WL.p h (Val.taY N9 (hb.y9 u4)) ?_
    refine WL.p h Val.mv ?_
    refine WL.p h (Val.ext rfl rfl) ?_
    refine WL.p h (Val.ext rfl rfl) ?_
    refine WL.p h Val.as ?_
    refine WL.p h Val.as ?_
    refine WL.nil ?_
    refine W.seq (W.region rfl ?_)
    refine WL.p h Val.mv ?_
    refine WL.nil ?_
    refine W.condT rfl ?_
    refine W.seq (W.region rfl ?_)
    refine WL.p h Val.mv ?_
    refine WL.p h Val.mv ?_
    refine WL.call C90 (args := [.string t.atom.t, .string u.atom.t]) rfl ((Sh.Try.strings_Contains t.atom.t u.atom.t m _ (by omega) (hz _ h.sub)).mono ?_)
    rintro e w' ⟨rfl, rfl⟩
    refine ⟨_, rfl, ?_⟩
    refine WL.p h (Val.mkI (by kernel_rfl) rfl) ?_
    refine WL.p h Val.as ?_
    refine WL.p h Val.as ?_
    refine WL.nil ?_
    refine W.ret ?_
    exact fin2 (v := .iface 4 (.bool (Lib.contains t.atom.t.data.toList u.atom.t.data.toList))) (x := .string ⟨#[]⟩) rfl rfl rfl (PVA.bool h.toExt (by rw [opT, if_neg (show ¬ ((9 : Int) = 3) by decide), if_neg (show ¬ ((9 : Int) = 4) by decide), if_pos rfl, hasA, if_pos k4, if_pos u4]))
  · refine W.seq (W.region rfl ?_)
    refine WL.p h Val.mv ?_
    refine WL.p h (Val.taF N9 T9 rfl (hb.n9 u4)) ?_
    refine WL.p h Val.mv ?_
    refine WL.p h (Val.ext rfl rfl) ?_
    refine WL.p h (Val.ext rfl rfl) ?_
    refine WL.p h Val.as ?_
    refine WL.p h Val.as ?_
    refine WL.nil ?_
    refine W.seq (W.region rfl ?_)
    refine WL.p h Val.mv ?_
    refine WL.nil ?_
    refine W.condF rfl ?_
    refine W.skip ?_
    refine W.seq (W.region rfl ?_)
    refine WL.p h Val.as ?_
    refine WL.p h Val.as ?_
    refine WL.nil ?_
    refine W.ret ?_
    exact fin2 (v := .nilIface) (x := .string wType) rfl rfl rfl (PVA.no h.toExt (by rw [opT, if_neg (show ¬ ((9 : Int) = 3) by decide), if_neg (show ¬ ((9 : Int) = 4) by decide), if_pos rfl, hasA, if_pos k4, if_neg u4]) (by decide))
set_option maxHeartbeats 4000000 in
theorem op9l_calls (F : Fz) (w0 : World) (hF : Sub F (hv w0)) (m : Int) (hz : ∀ w, Sub F (hv w) → w.cell? ⟨0, 0, none⟩ = some (.int .i64 m)) {a b : Value} {t u : T} (ha : Arg F t a) (hb : Arg F u b) (k5 : t.atom.k = 5) : Calls Try.prog 61 #[.int .i64 9, a, b] w0 (PVA F w0 (opT 9 t u)) := by
  rcases ha.v110 with ⟨_, k, va, us, hk, hkl, hav, hrow, hrs⟩ | ⟨e, _⟩
  rotate_left
  · exact absurd k5 e
  have k4 : t.atom.k ≠ 4 := by omega
  have hn9 := ha.n9 k4
  refine calls 371 Try.func61 rfl rfl rfl ?_
  have h := Hp.start hF
  refine W.seq (W.region rfl ?_)
  refine WL.p h Val.as ?_
  refine WL.p h Val.as ?_
  refine WL.nil ?_
  refine W.seq (W.seq (W.region rfl ?_))
  refine WL.p h Val.mv ?_
  refine WL.p h (Val.lt (a := 9) (b := 1) rfl rfl) ?_
  refine WL.p h Val.mv ?_
  refine WL.p h Val.mv ?_
  refine WL.p h (Val.gt (a := 9) (b := 14) rfl rfl) ?_
  refine WL.p h (Val.pick rfl) ?_
  refine WL.nil ?_
  refine W.condF rfl ?_
  refine W.skip ?_
  refine W.seq (W.seq (W.region rfl ?_))
  refine WL.p h Val.mv ?_
  refine WL.nil ?_
  refine W.block ?_
  refine W.seq (W.region rfl ?_)
  refine WL.p h (Val.eq (a := 9) (b := 3) rfl rfl) ?_
  refine WL.p h Val.as ?_
  refine WL.nil ?_
  refine W.condF rfl ?_
  refine W.seq (W.region rfl ?_)
  refine WL.p h (Val.eq (a := 9) (b := 4) rfl rfl) ?_
  refine WL.p h Val.as ?_
  refine WL.nil ?_
  refine W.condF rfl ?_
  refine W.seq (W.seq (W.region rfl ?_))
  refine WL.p h (Val.eq (a := 9) (b := 5) rfl rfl) ?_
  refine WL.p h Val.as ?_
  refine WL.nil ?_
  refine W.condF rfl ?_
  refine W.seq (W.region rfl ?_)
  refine WL.p h (Val.eq (a := 9) (b := 6) rfl rfl) ?_
  refine WL.p h Val.as ?_
  refine WL.nil ?_
  refine W.condF rfl ?_
  refine W.seq (W.region rfl ?_)
  refine WL.p h (Val.eq (a := 9) (b := 7) rfl rfl) ?_
  refine WL.p h Val.as ?_
  refine WL.nil ?_
  refine W.condF rfl ?_
  refine W.region rfl ?_
  refine WL.p h (Val.eq (a := 9) (b := 8) rfl rfl) ?_
  refine WL.p h Val.as ?_
  refine WL.nil ?_
  refine W.condF rfl ?_
  refine W.seq (W.seq (W.region rfl ?_))
  refine WL.p h (Val.eq (a := 9) (b := 1) rfl rfl) ?_
  refine WL.p h Val.as ?_
  refine WL.nil ?_
  refine W.condF rfl ?_
  refine W.region rfl ?_
  refine WL.p h (Val.eq (a := 9) (b := 2) rfl rfl) ?_
  refine WL.p h Val.as ?_
  refine WL.nil ?_
  refine W.condF rfl ?_
  refine W.seq (W.region rfl ?_)
  refine WL.p h (Val.eq (a := 9) (b := 9) rfl rfl) ?_
  refine WL.p h Val.as ?_
  refine WL.nil ?_
  refine W.condT rfl ?_
  refine W.seq (W.seq (W.region rfl ?_))
  refine WL.p h Val.mv ?_
  refine WL.nil ?_
  refine W.block ?_
  refine W.seq (W.region rfl ?_)
  refine WL.p h (Val.taF N9 T9 rfl hn9) ?_
  refine WL.p h (Val.ext rfl rfl) ?_
  refine WL.p h (Val.ext rfl rfl) ?_
  refine WL.nil ?_
  refine W.condF rfl ?_
  refine W.seq (W.region rfl ?_)
  refine WL.p h (Val.taY N110 hav) ?_
  refine WL.p h (Val.ext rfl rfl) ?_
  refine WL.p h (Val.ext rfl rfl) ?_
  refine WL.nil ?_
  refine W.condT rfl ?_
  refine W.seq (W.region rfl ?_)
  refine WL.p h Val.as ?_
  refine WL.nil ?_
  refine W.seq (W.seq (W.region rfl ?_))
  refine WL.p h Val.mv ?_
  refine WL.p h (Val.len Try.underlying110 rfl hrow.val) ?_
  refine WL.p h Val.mv ?_
  refine WL.nil ?_
  refine W.block ?_
  refine W.loop (fun m R w => ∃ j, m + j = t.kids.length ∧ Hp w0 F F [] w ∧ (∀ (i : Nat) x, i < j → t.kids[i]? = some x → ordT x u ≠ 0) ∧ R 2 = b ∧ R 169 = va ∧ R 170 = .int .i64 (t.kids.length : Int) ∧ R 171 = .int .i64 (j : Int)) t.kids.length ⟨0, by omega, h, fun i x hi => by omega, rfl, rfl, rfl, rfl⟩ (fun m R w hI => ?_)
  clear h
  obtain ⟨j, hm, h, hno, h2, h169, h170, h171⟩ := hI
  refine W.seq (W.region rfl ?_)
  refine WL.p h (Val.lt h171 h170) ?_
  refine WL.dec (fun c1 => ?_) (fun c1 => ?_)
  · obtain ⟨x, hx⟩ : ∃ x, t.kids[j]? = some x := ⟨_, List.getElem?_eq_getElem (by omega)⟩
    obtain ⟨s1, i1, hs1, hw1, he1, hr1⟩ := kid_arg ha hk hrs hx
    refine WL.nil ?_
    refine W.seq ?_
    refine W.condT rfl ?_
    refine W.skip ?_
    refine W.seq (W.block ?_)
    refine W.seq (W.region rfl ?_)
    refine WL.p h (Val.ix (i := j) Try.underlying110 T71 h169 h171 (hrow.slice (by omega)) (by omega)) ?_
    refine WL.p h (Val.ldR A71 hrow rfl (show us[j * 1]? = some s1 by rw [Nat.mul_one]; exact hs1)) ?_
    refine WL.p h Val.as ?_
    refine WL.nil ?_
    refine W.seq (W.region rfl ?_)
    refine WL.p h Val.mv ?_
    refine WL.p h Val.mv ?_
    refine WL.call C45 (args := [s1, b]) (congrArg (fun x => [s1, x]) h2) ((ordk_calls F _ h.sub hw1 he1 hr1 hb).mono ?_)
    rintro e w' ⟨rfl, hE⟩
    have h := h.call hE
    refine ⟨_, rfl, ?_⟩
    refine WL.p h (Val.eq (a := ordT x u) (b := 0) rfl rfl) ?_
    refine WL.dec (fun c2 => ?_) (fun c2 => ?_)
    · refine WL.nil ?_
      refine W.condT rfl ?_
      refine W.seq (W.region rfl ?_)
      refine WL.p h (Val.mkI (by kernel_rfl) rfl) ?_
      refine WL.p h Val.as ?_
      refine WL.p h Val.as ?_
      refine WL.nil ?_
      refine W.ret ?_
      exact fin2 (v := .iface 4 (.bool (true))) (x := .string ⟨#[]⟩) rfl rfl rfl (PVA.bool h.toExt (by rw [opT, if_neg (show ¬ ((9 : Int) = 3) by decide), if_neg (show ¬ ((9 : Int) = 4) by decide), if_pos rfl, hasA, if_neg k4, if_pos k5, show (t.kids.any fun k => decide (ordT k u = 0)) = true from List.any_eq_true.2 ⟨x, List.mem_of_getElem? hx, by simp [c2]⟩]))
    · refine WL.nil ?_
      refine W.condF rfl ?_
      refine W.skip ?_
      refine W.region rfl ?_
      refine WL.p h (Val.addi (c := ((j + 1 : Nat) : Int)) h171 rfl (by omega)) ?_
      refine WL.p h Val.mv ?_
      refine WL.nil ?_
      exact ⟨m - 1, by omega, j + 1, by omega, h, fun i y hi hy => by
        by_cases e : i = j
        · subst e; rw [hx] at hy; cases hy; exact c2
        · exact hno i y (by omega) hy, h2, h169, h170, rfl⟩
  · refine WL.nil ?_
    refine W.seq ?_
    refine W.condF rfl ?_
    refine W.exit ?_
    refine W.seq (W.region rfl ?_)
    refine WL.p h (Val.mkI (by kernel_rfl) rfl) ?_
    refine WL.p h Val.as ?_
    refine WL.p h Val.as ?_
    refine WL.nil ?_
    refine W.ret ?_
    exact fin2 (v := .iface 4 (.bool (false))) (x := .string ⟨#[]⟩) rfl rfl rfl (PVA.bool h.toExt (by rw [opT, if_neg (show ¬ ((9 : Int) = 3) by decide), if_neg (show ¬ ((9 : Int) = 4) by decide), if_pos rfl, hasA, if_neg k4, if_pos k5, show (t.kids.any fun k => decide (ordT k u = 0)) = false from any_no (by omega) hno]))
set_option maxHeartbeats 4000000 in
theorem op9r_calls (F : Fz) (w0 : World) (hF : Sub F (hv w0)) (m : Int) (hz : ∀ w, Sub F (hv w) → w.cell? ⟨0, 0, none⟩ = some (.int .i64 m)) {a b : Value} {t u : T} (ha : Arg F t a) (hb : Arg F u b) (k6 : t.atom.k = 6) : Calls Try.prog 61 #[.int .i64 9, a, b] w0 (PVA F w0 (opT 9 t u)) := by
  rcases ha.v112 with ⟨_, xa, ya, D, hav, hD⟩ | ⟨e, _⟩
  rotate_left
  · exact absurd k6 e
  have k4 : t.atom.k ≠ 4 := by omega
  have k5 : t.atom.k ≠ 5 := by omega
  have hn9 := ha.n9 k4
  have hn110 := ha.n110 k5
  have hrX : FRow F xa (D.map (·.1)).length 1 ((D.map (·.1)).map Value.string) := by simpa [Function.comp_def] using hD.rowX
  have hone := rec_one hD
  refine calls 371 Try.func61 rfl rfl rfl ?_
  have h := Hp.start hF
  refine W.seq (W.region rfl ?_)
  refine WL.p h Val.as ?_
  refine WL.p h Val.as ?_
  refine WL.nil ?_
  refine W.seq (W.seq (W.region rfl ?_))
  refine WL.p h Val.mv ?_
  refine WL.p h (Val.lt (a := 9) (b := 1) rfl rfl) ?_
  refine WL.p h Val.mv ?_
  refine WL.p h Val.mv ?_
  refine WL.p h (Val.gt (a := 9) (b := 14) rfl rfl) ?_
  refine WL.p h (Val.pick rfl) ?_
  refine WL.nil ?_
  refine W.condF rfl ?_
  refine W.skip ?_
  refine W.seq (W.seq (W.region rfl ?_))
  refine WL.p h Val.mv ?_
  refine WL.nil ?_
  refine W.block ?_
  refine W.seq (W.region rfl ?_)
  refine WL.p h (Val.eq (a := 9) (b := 3) rfl rfl) ?_
  refine WL.p h Val.as ?_
  refine WL.nil ?_
  refine W.condF rfl ?_
  refine W.seq (W.region rfl ?_)
  refine WL.p h (Val.eq (a := 9) (b := 4) rfl rfl) ?_
  refine WL.p h Val.as ?_
  refine WL.nil ?_
  refine W.condF rfl ?_
  refine W.seq (W.seq (W.region rfl ?_))
  refine WL.p h (Val.eq (a := 9) (b := 5) rfl rfl) ?_
  refine WL.p h Val.as ?_
  refine WL.nil ?_
  refine W.condF rfl ?_
  refine W.seq (W.region rfl ?_)
  refine WL.p h (Val.eq (a := 9) (b := 6) rfl rfl) ?_
  refine WL.p h Val.as ?_
  refine WL.nil ?_
  refine W.condF rfl ?_
  refine W.seq (W.region rfl ?_)
  refine WL.p h (Val.eq (a := 9) (b := 7) rfl rfl) ?_
  refine WL.p h Val.as ?_
  refine WL.nil ?_
  refine W.condF rfl ?_
  refine W.region rfl ?_
  refine WL.p h (Val.eq (a := 9) (b := 8) rfl rfl) ?_
  refine WL.p h Val.as ?_
  refine WL.nil ?_
  refine W.condF rfl ?_
  refine W.seq (W.seq (W.region rfl ?_))
  refine WL.p h (Val.eq (a := 9) (b := 1) rfl rfl) ?_
  refine WL.p h Val.as ?_
  refine WL.nil ?_
  refine W.condF rfl ?_
  refine W.region rfl ?_
  refine WL.p h (Val.eq (a := 9) (b := 2) rfl rfl) ?_
  refine WL.p h Val.as ?_
  refine WL.nil ?_
  refine W.condF rfl ?_
  refine W.seq (W.region rfl ?_)
  refine WL.p h (Val.eq (a := 9) (b := 9) rfl rfl) ?_
  refine WL.p h Val.as ?_
  refine WL.nil ?_
  refine W.condT rfl ?_
  refine W.seq (W.seq (W.region rfl ?_))
  refine WL.p h Val.mv ?_
  refine WL.nil ?_
  refine W.block ?_
  refine W.seq (W.region rfl ?_)
  refine WL.p h (Val.taF N9 T9 rfl hn9) ?_
  refine WL.p h (Val.ext rfl rfl) ?_
  refine WL.p h (Val.ext rfl rfl) ?_
  refine WL.nil ?_
  refine W.condF rfl ?_
  refine W.seq (W.region rfl ?_)
  refine WL.p h (Val.taF N110 T110 rfl hn110) ?_
  refine WL.p h (Val.ext rfl rfl) ?_
  refine WL.p h (Val.ext rfl rfl) ?_
  refine WL.nil ?_
  refine W.condF rfl ?_
  refine W.seq (W.region rfl ?_)
  refine WL.p h (Val.taY N112 hav) ?_
  refine WL.p h (Val.ext rfl rfl) ?_
  refine WL.p h (Val.ext rfl rfl) ?_
  refine WL.nil ?_
  refine W.condT rfl ?_
  refine W.seq (W.region rfl ?_)
  refine WL.alloc h T112 (fun b20 w h => ?_)
  refine WL.stS 0 h rfl T112 rfl (vs := [xa, ya]) rfl hone rfl rfl (fun w h => ?_)
  refine WL.nil ?_
  by_cases u4 : u.atom.k = 4
  · refine W.seq (W.region rfl ?_)
    refine WL.p h Val.mv ?_
    refine WL.p h (Val.taY N9 (hb.y9 u4)) ?_
    refine WL.p h Val.mv ?_
    refine WL.p h (Val.ext rfl rfl) ?_
    refine WL.p h (Val.ext rfl rfl) ?_
    refine WL.p h Val.as ?_
    refine WL.p h Val.as ?_
    refine WL.nil ?_
    refine W.seq (W.region rfl ?_)
    refine WL.p h Val.mv ?_
    refine WL.nil ?_
    refine W.condT rfl ?_
    refine W.seq (W.region rfl ?_)
    refine WL.p h (Val.fa O112_0 rfl) ?_
    refine WL.p h (Val.ld 0 A24 rfl rfl rfl) ?_
    refine WL.p h Val.mv ?_
    refine WL.call C91 (args := [xa, .string u.atom.t]) rfl ((contains_calls F _ h.sub xa (D.map (·.1)) hrX u.atom.t).mono ?_)
    rintro e w' ⟨rfl, hE⟩
    have h := h.call hE
    refine ⟨_, rfl, ?_⟩
    refine WL.p h (Val.mkI (by kernel_rfl) rfl) ?_
    refine WL.p h Val.as ?_
    refine WL.p h Val.as ?_
    refine WL.nil ?_
    refine W.ret ?_
    exact fin2 (v := .iface 4 (.bool (Lib.containsS (D.map (·.1)) u.atom.t))) (x := .string ⟨#[]⟩) rfl rfl rfl (PVA.bool h.toExt (by rw [opT, if_neg (show ¬ ((9 : Int) = 3) by decide), if_neg (show ¬ ((9 : Int) = 4) by decide), if_pos rfl, hasA, if_neg k4, if_neg k5, if_pos k6, if_pos u4, has_rec hD]))
  · refine W.seq (W.region rfl ?_)
    refine WL.p h Val.mv ?_
    refine WL.p h (Val.taF N9 T9 rfl (hb.n9 u4)) ?_
    refine WL.p h Val.mv ?_
    refine WL.p h (Val.ext rfl rfl) ?_
    refine WL.p h (Val.ext rfl rfl) ?_
    refine WL.p h Val.as ?_
    refine WL.p h Val.as ?_
    refine WL.nil ?_
    refine W.seq (W.region rfl ?_)
    refine WL.p h Val.mv ?_
    refine WL.nil ?_
    refine W.condF rfl ?_
    refine W.skip ?_
    refine W.seq (W.region rfl ?_)
    refine WL.p h Val.as ?_
    refine WL.p h Val.as ?_
    refine WL.nil ?_
    refine W.ret ?_
    exact fin2 (v := .nilIface) (x := .string wType) rfl rfl rfl (PVA.no h.toExt (by rw [opT, if_neg (show ¬ ((9 : Int) = 3) by decide), if_neg (show ¬ ((9 : Int) = 4) by decide), if_pos rfl, hasA, if_neg k4, if_neg k5, if_pos k6, if_neg u4]) (by decide))
set_option maxHeartbeats 4000000 in
theorem op9n_calls (F : Fz) (w0 : World) (hF : Sub F (hv w0)) (m : Int) (hz : ∀ w, Sub F (hv w) → w.cell? ⟨0, 0, none⟩ = some (.int .i64 m)) {a b : Value} {t u : T} (ha : Arg F t a) (hb : Arg F u b) (k4 : t.atom.k ≠ 4) (k5 : t.atom.k ≠ 5) (k6 : t.atom.k ≠ 6) : Calls Try.prog 61 #[.int .i64 9, a, b] w0 (PVA F w0 (opT 9 t u)) := by
  have hn9 := ha.n9 k4
  have hn110 := ha.n110 k5
  have hn112 := ha.n112 k6
  refine calls 371 Try.func61 rfl rfl rfl ?_
  have h := Hp.start hF
  refine W.seq (W.region rfl ?_)
  refine WL.p h Val.as ?_
  refine WL.p h Val.as ?_
  refine WL.nil ?_
  refine W.seq (W.seq (W.region rfl ?_))
  refine WL.p h Val.mv ?_
  refine WL.p h (Val.lt (a := 9) (b := 1) rfl rfl) ?_
  refine WL.p h Val.mv ?_
  refine WL.p h Val.mv ?_
  refine WL.p h (Val.gt (a := 9) (b := 14) rfl rfl) ?_
  refine WL.p h (Val.pick rfl) ?_
  refine WL.nil ?_
  refine W.condF rfl ?_
  refine W.skip ?_
  refine W.seq (W.seq (W.region rfl ?_))
  refine WL.p h Val.mv ?_
  refine WL.nil ?_
  refine W.block ?_
  refine W.seq (W.region rfl ?_)
  refine WL.p h (Val.eq (a := 9) (b := 3) rfl rfl) ?_
  refine WL.p h Val.as ?_
  refine WL.nil ?_
  refine W.condF rfl ?_
  refine W.seq (W.region rfl ?_)
  refine WL.p h (Val.eq (a := 9) (b := 4) rfl rfl) ?_
  refine WL.p h Val.as ?_
  refine WL.nil ?_
  refine W.condF rfl ?_
  refine W.seq (W.seq (W.region rfl ?_))
  refine WL.p h (Val.eq (a := 9) (b := 5) rfl rfl) ?_
  refine WL.p h Val.as ?_
  refine WL.nil ?_
  refine W.condF rfl ?_
  refine W.seq (W.region rfl ?_)
  refine WL.p h (Val.eq (a := 9) (b := 6) rfl rfl) ?_
  refine WL.p h Val.as ?_
  refine WL.nil ?_
  refine W.condF rfl ?_
  refine W.seq (W.region rfl ?_)
  refine WL.p h (Val.eq (a := 9) (b := 7) rfl rfl) ?_
  refine WL.p h Val.as ?_
  refine WL.nil ?_
  refine W.condF rfl ?_
  refine W.region rfl ?_
  refine WL.p h (Val.eq (a := 9) (b := 8) rfl rfl) ?_
  refine WL.p h Val.as ?_
  refine WL.nil ?_
  refine W.condF rfl ?_
  refine W.seq (W.seq (W.region rfl ?_))
  refine WL.p h (Val.eq (a := 9) (b := 1) rfl rfl) ?_
  refine WL.p h Val.as ?_
  refine WL.nil ?_
  refine W.condF rfl ?_
  refine W.region rfl ?_
  refine WL.p h (Val.eq (a := 9) (b := 2) rfl rfl) ?_
  refine WL.p h Val.as ?_
  refine WL.nil ?_
  refine W.condF rfl ?_
  refine W.seq (W.region rfl ?_)
  refine WL.p h (Val.eq (a := 9) (b := 9) rfl rfl) ?_
  refine WL.p h Val.as ?_
  refine WL.nil ?_
  refine W.condT rfl ?_
  refine W.seq (W.seq (W.region rfl ?_))
  refine WL.p h Val.mv ?_
  refine WL.nil ?_
  refine W.block ?_
  refine W.seq (W.region rfl ?_)
  refine WL.p h (Val.taF N9 T9 rfl hn9) ?_
  refine WL.p h (Val.ext rfl rfl) ?_
  refine WL.p h (Val.ext rfl rfl) ?_
  refine WL.nil ?_
  refine W.condF rfl ?_
  refine W.seq (W.region rfl ?_)
  refine WL.p h (Val.taF N110 T110 rfl hn110) ?_
  refine WL.p h (Val.ext rfl rfl) ?_
  refine WL.p h (Val.ext rfl rfl) ?_
  refine WL.nil ?_
  refine W.condF rfl ?_
  refine W.seq (W.region rfl ?_)
  refine WL.p h (Val.taF N112 T112 rfl hn112) ?_
  refine WL.p h (Val.ext rfl rfl) ?_
  refine WL.p h (Val.ext rfl rfl) ?_
  refine WL.nil ?_
  refine W.condF rfl ?_
  refine W.skip ?_
  refine W.seq (W.region rfl ?_)
  refine WL.p h Val.as ?_
  refine WL.p h Val.as ?_
  refine WL.nil ?_
  refine W.ret ?_
  exact fin2 (v := .nilIface) (x := .string wType) rfl rfl rfl (PVA.no h.toExt (by rw [opT, if_neg (show ¬ ((9 : Int) = 3) by decide), if_neg (show ¬ ((9 : Int) = 4) by decide), if_pos rfl, hasA, if_neg k4, if_neg k5, if_neg k6]) (by decide))
theorem op9_calls (F : Fz) (w0 : World) (hF : Sub F (hv w0)) (m : Int) (hz : ∀ w, Sub F (hv w) → w.cell? ⟨0, 0, none⟩ = some (.int .i64 m)) {a b : Value} {t u : T} (ha : Arg F t a) (hb : Arg F u b) : Calls Try.prog 61 #[.int .i64 9, a, b] w0 (PVA F w0 (opT 9 t u)) := by
  by_cases k4 : t.atom.k = 4
  · exact op9t_calls F w0 hF m hz ha hb k4
  by_cases k5 : t.atom.k = 5
  · exact op9l_calls F w0 hF m hz ha hb k5
  by_cases k6 : t.atom.k = 6
  · exact op9r_calls F w0 hF m hz ha hb k6
  exact op9n_calls F w0 hF m hz ha hb k4 k5 k6
end Go.Proofs.Ytmiihhbgfijcmaa.K


/- Op: the program, walked: and so on: sums. -/
namespace Go.Proofs.Ytmiihhbgfijcmaa.K
open Go Go.RowKit
set_option linter.unusedVariables false
set_option linter.unusedSimpArgs false
set_option maxRecDepth 20000
theorem Arg.n2 {F : Fz} {t : T} {a : Value} (h : Arg F t a) (e : t.atom.k ≠ 3) : NT 2 a := h.v2.elim (fun h => absurd h.1 e) (fun h => h.2)
theorem Arg.y110 {F : Fz} {t : T} {a : Value} (h : Arg F t a) (e : t.atom.k = 5) : ∃ k u us, evalTs t.kids = some k ∧ t.kids.length ≤ 200 ∧ a = .iface 110 u ∧ FRow F u t.kids.length 1 us ∧ Reps F (k.map It.v) us := h.v110.elim (fun h => h.2) (fun h => absurd e h.1)
theorem Arg.y112 {F : Fz} {t : T} {a : Value} (h : Arg F t a) (e : t.atom.k = 6) : ∃ x y D, a = .iface 112 (.agg #[x, y]) ∧ RD F t x y D := h.v112.elim (fun h => h.2) (fun h => absurd e h.1)
theorem Reps.append {F : Fz} : ∀ {l m : List V} {us vs : List Value}, Reps F l us → Reps F m vs → Reps F (l ++ m) (us ++ vs)
  | [], m, us, vs, h1, h2 => by simp only [Reps] at h1; subst h1; exact h2
  | x :: l, m, us, vs, h1, h2 => by
    simp only [Reps] at h1
    obtain ⟨u, r, rfl, h3, h4⟩ := h1
    exact ⟨u, r ++ vs, rfl, h3, h4.append h2⟩
theorem Reps.one {F : Fz} {l : List V} {us : List Value} (h : Reps F l us) : ∀ u ∈ us, u.oneCell' = true := by
  intro u hu
  obtain ⟨i, hi⟩ := List.mem_iff_getElem?.1 hu
  have hl := (List.getElem?_eq_some_iff.1 hi).1
  rw [h.len] at hl
  obtain ⟨s, hs, hr⟩ := h.get (List.getElem?_eq_getElem hl)
  rw [hi] at hs; cases hs; exact hr.one
theorem evalTs_append : ∀ {a b : List T} {k l : List It}, evalTs a = some k → evalTs b = some l → evalTs (a ++ b) = some (k ++ l)
  | [], b, k, l, h1, h2 => by simp [evalTs] at h1; subst h1; exact h2
  | t :: a, b, k, l, h1, h2 => by
    simp only [evalTs, Option.bind_eq_some_iff, Option.some.injEq] at h1
    obtain ⟨x, hx, r, hr, rfl⟩ := h1
    simp only [List.cons_append, evalTs, hx, evalTs_append hr h2, Option.bind_some]
theorem list_facts {F : Fz} {t u : T} {a b : Value} (ha : Arg F t a) (hb : Arg F u b) (k5 : t.atom.k = 5) {k : List It} (hk : evalTs t.kids = some k) : ∃ (k2 : List V) (vb : Value) (us2 : List Value), (u.atom.k = 5 → u.kids.length ≤ 200) ∧ (u.atom.k = 5 → b = .iface 110 vb) ∧ (u.atom.k = 5 → FRow F vb u.kids.length 1 us2) ∧ (u.atom.k = 5 → Reps F k2 us2) ∧ (u.atom.k = 5 → outA (giveV (.list (k.map It.v ++ k2))) = opT 10 t u) ∧ (u.atom.k = 5 → (packV (.list (k.map It.v ++ k2))).length ≤ 1048576) := by
  by_cases u5 : u.atom.k = 5
  · obtain ⟨l, vb, us2, hl, hll, hbv, hrow2, hrs2⟩ := hb.y110 u5
    have hkw : ∀ z ∈ t.kids ++ u.kids, T.Wf z := fun z hz => (List.mem_append.1 hz).elim (ha.vt.kid_wf z) (hb.vt.kid_wf z)
    have hev := evalTs_append hk hl
    refine ⟨l.map It.v, vb, us2, fun _ => hll, fun _ => hbv, fun _ => hrow2, fun _ => hrs2, fun _ => ?_, fun _ => ?_⟩
    · have := give_list hkw hev
      rw [List.map_append] at this
      rw [opT, if_neg (show ¬ ((10 : Int) = 3) by decide), if_neg (show ¬ ((10 : Int) = 4) by decide), if_neg (show ¬ ((10 : Int) = 9) by decide), if_pos rfl, addA, if_neg (show ¬ t.atom.k ≠ u.atom.k by omega), if_neg (by omega), if_neg (by omega), if_pos k5]
      exact this
    · rw [← List.map_append]
      simp only [packV, packs_eval _ _ hkw hev, encs_append, List.length_append, List.length_singleton]
      have := ha.vt.kids_len
      have := hb.vt.kids_len
      omega
  · exact ⟨[], .nilIface, [], fun e => absurd e u5, fun e => absurd e u5, fun e => absurd e u5, fun e => absurd e u5, fun e => absurd e u5, fun e => absurd e u5⟩
theorem giveL_calls {w0 w : World} {F : Fz} {kv : Value} {n : Nat} {l m : List V} {us vs : List Value} (h : Hp w0 F F [.own kv 71 1 n ([] ++ us ++ vs)] w) (h1 : Reps F l us) (h2 : Reps F m vs) (hn : n = (l ++ m).length) (hb : (packV (.list (l ++ m))).length ≤ 1048576) : Calls Try.prog 92 #[.iface 110 kv] w fun e w' => ∃ F' r, e = .returned (.tuple #[r, .string (giveV (.list (l ++ m))).2]) ∧ Hp w0 F F' [.dead] w' ∧ Rep F' (giveV (.list (l ++ m))).1 r := by
  obtain ⟨F2, hs, h', hrow⟩ := h.freezeRow 0 rfl
  have hrep : Rep F2 (.list (l ++ m)) (.iface 110 kv) := by
    simp only [Rep]
    exact ⟨kv, us ++ vs, rfl, by rw [← hn]; simpa using hrow, (h1.append h2).mono hs⟩
  have h' : Hp w0 F F2 [.dead] w := h'
  refine (give_calls F2 w h'.sub _ _ hrep hb).mono ?_
  rintro e w' ⟨F3, r, rfl, hE, hr⟩
  exact ⟨F3, r, rfl, h'.call hE, hr⟩
theorem rec_keys {F : Fz} {t : T} {x y : Value} {D : AL En} (hD : RD F t x y D) : ∀ p ∈ vals D, p.1.size ≤ 9223372036854775807 := by
  intro p hp
  obtain ⟨q, hq, rfl⟩ := List.mem_map.1 hp
  have := (hD.each q hq).1
  show q.1.size ≤ _
  omega
theorem keyb_upd {M B : SMap} (h1 : KeyB M) (h2 : ∀ p ∈ B, p.1.size ≤ 9223372036854775807) : KeyB (updAll M B) := fun p hp => (updAll_mem_keys B M p hp).elim (h1 p) (h2 p)
theorem upd_step {D : AL En} (M : SMap) {j : Nat} {p : ByteArray × En} (hp : D[j]? = some p) : updM (updAll M ((vals D).take j)) p.1 p.2.2.2 = updAll M ((vals D).take (j + 1)) := by
  have h : (vals D)[j]? = some (p.1, p.2.2.2) := by rw [vals, List.getElem?_map, hp]; rfl
  obtain ⟨hl, he⟩ := List.getElem?_eq_some_iff.1 h
  rw [List.take_succ_eq_append_getElem hl, updAll_snoc, he]
theorem vals_one {F : Fz} {t u : T} {x y x' y' : Value} {D E : AL En} (hD : RD F t x y D) (hE : RD F u x' y' E) : ∀ p ∈ updAll (updAll [] (vals D)) (vals E), p.2.oneCell' = true := by
  intro p hp
  have key : ∀ {t : T} {x y : Value} {D : AL En}, RD F t x y D → ∀ p ∈ vals D, p.2.oneCell' = true := by
    intro t x y D hD p hp
    obtain ⟨q, hq, rfl⟩ := List.mem_map.1 hp
    exact (hD.each q hq).2.2.2.one
  rcases updAll_mem_keys _ _ p hp with h | h
  · rcases updAll_mem_keys _ _ p h with h | h
    · simp at h
    · exact key hD p h
  · exact key hE p h
theorem fm_calls {w0 w : World} {F : Fz} {c1 c2 : Ch} {b : Nat} {M : SMap} {ns : List ByteArray} {vs : List V} {us : List Value} (h : Hp w0 F F [c1, c2, .obj b (mobj M)] w) (hM : KeyB M) (hn : (keysM M).Nodup) (hV : ∀ p ∈ M, p.2.oneCell' = true) (hl : M.length ≤ 1048576) (e1 : sortB (keysM M) = ns) (e2 : (sortB (keysM M)).map (fun k => lookM M k .nilIface) = us) (e3 : M.length = ns.length) (e4 : ns.length = vs.length) (hr : Reps F vs us) : Calls Try.prog 93 #[.map (some b)] w fun e w' => ∃ F' v, e = .returned v ∧ Hp w0 F F' [c1, c2, .dead] w' ∧ Rep F' (.record ns vs) (.iface 112 v) := by
  obtain ⟨F2, hs, h', hb⟩ := h.freeze 2 rfl
  have hb' : F2 b = some (mobj M) := (hb b rfl).trans (h.holds 2 _ rfl)
  have h' : Hp w0 F F2 [c1, c2, .dead] w := h'
  refine (fromMap_calls F2 w h'.sub b M hb' hM hn hV hl).mono ?_
  rintro e w' ⟨F3, x, y, rfl, hE, hx, hy⟩
  refine ⟨F3, _, rfl, h'.call hE, ?_⟩
  simp only [Rep]
  refine ⟨x, y, us, rfl, e4, ?_, ?_, hr.mono (hs.trans hE.ext)⟩
  · rw [← e3, ← e1]; exact hx
  · rw [← e4, ← e3, ← e2]; exact hy
set_option maxHeartbeats 4000000 in
theorem op10t_calls (F : Fz) (w0 : World) (hF : Sub F (hv w0)) {a b : Value} {t u : T} (ha : Arg F t a) (hb : Arg F u b) (k4 : t.atom.k = 4) : Calls Try.prog 61 #[.int .i64 10, a, b] w0 (PVA F w0 (opT 10 t u)) := by
  obtain ⟨y, ok2, hk2, hy, hT2⟩ := hb.w2
  have hsz := ha.s9 k4
  have hav := ha.y9 k4
  have hn2 := ha.n2 (by omega)
  have hno : u.atom.k ≠ 4 → opT 10 t u = ([], wType) := fun e => by rw [opT, if_neg (show ¬ ((10 : Int) = 3) by decide), if_neg (show ¬ ((10 : Int) = 4) by decide), if_neg (show ¬ ((10 : Int) = 9) by decide), if_pos rfl, addA, if_pos (show t.atom.k ≠ u.atom.k by omega)]
  have hyes : u.atom.k = 4 → u.atom.t.size ≤ 1000 ∧ outA (giveV (.text (t.atom.t ++ u.atom.t))) = opT 10 t u := fun e => ⟨hb.s9 e, by rw [opT, if_neg (show ¬ ((10 : Int) = 3) by decide), if_neg (show ¬ ((10 : Int) = 4) by decide), if_neg (show ¬ ((10 : Int) = 9) by decide), if_pos rfl, addA, if_neg (show ¬ t.atom.k ≠ u.atom.k by omega), if_neg (by omega), if_pos k4, give_text]⟩
  refine calls 371 Try.func61 rfl rfl rfl ?_
  have h := Hp.start hF
  refine W.seq (W.region rfl ?_)
  refine WL.p h Val.as ?_
  refine WL.p h Val.as ?_
  refine WL.nil ?_
  refine W.seq (W.seq (W.region rfl ?_))
  refine WL.p h Val.mv ?_
  refine WL.p h (Val.lt (a := 10) (b := 1) rfl rfl) ?_
  refine WL.p h Val.mv ?_
  refine WL.p h Val.mv ?_
  refine WL.p h (Val.gt (a := 10) (b := 14) rfl rfl) ?_
  refine WL.p h (Val.pick rfl) ?_
  refine WL.nil ?_
  refine W.condF rfl ?_
  refine W.skip ?_
  refine W.seq (W.seq (W.region rfl ?_))
  refine WL.p h Val.mv ?_
  refine WL.nil ?_
  refine W.block ?_
  refine W.seq (W.region rfl ?_)
  refine WL.p h (Val.eq (a := 10) (b := 3) rfl rfl) ?_
  refine WL.p h Val.as ?_
  refine WL.nil ?_
  refine W.condF rfl ?_
  refine W.seq (W.region rfl ?_)
  refine WL.p h (Val.eq (a := 10) (b := 4) rfl rfl) ?_
  refine WL.p h Val.as ?_
  refine WL.nil ?_
  refine W.condF rfl ?_
  refine W.seq (W.seq (W.region rfl ?_))
  refine WL.p h (Val.eq (a := 10) (b := 5) rfl rfl) ?_
  refine WL.p h Val.as ?_
  refine WL.nil ?_
  refine W.condF rfl ?_
  refine W.seq (W.region rfl ?_)
  refine WL.p h (Val.eq (a := 10) (b := 6) rfl rfl) ?_
  refine WL.p h Val.as ?_
  refine WL.nil ?_
  refine W.condF rfl ?_
  refine W.seq (W.region rfl ?_)
  refine WL.p h (Val.eq (a := 10) (b := 7) rfl rfl) ?_
  refine WL.p h Val.as ?_
  refine WL.nil ?_
  refine W.condF rfl ?_
  refine W.region rfl ?_
  refine WL.p h (Val.eq (a := 10) (b := 8) rfl rfl) ?_
  refine WL.p h Val.as ?_
  refine WL.nil ?_
  refine W.condF rfl ?_
  refine W.seq (W.seq (W.region rfl ?_))
  refine WL.p h (Val.eq (a := 10) (b := 1) rfl rfl) ?_
  refine WL.p h Val.as ?_
  refine WL.nil ?_
  refine W.condF rfl ?_
  refine W.region rfl ?_
  refine WL.p h (Val.eq (a := 10) (b := 2) rfl rfl) ?_
  refine WL.p h Val.as ?_
  refine WL.nil ?_
  refine W.condF rfl ?_
  refine W.seq (W.region rfl ?_)
  refine WL.p h (Val.eq (a := 10) (b := 9) rfl rfl) ?_
  refine WL.p h Val.as ?_
  refine WL.nil ?_
  refine W.condF rfl ?_
  refine W.skip ?_
  refine W.seq (W.seq (W.region rfl ?_))
  refine WL.p h Val.mv ?_
  refine WL.p h (Val.eq (a := 10) (b := 10) rfl rfl) ?_
  refine WL.nil ?_
  refine W.condT rfl ?_
  refine W.seq (W.region rfl ?_)
  refine WL.p h Val.mv ?_
  refine WL.nil ?_
  refine W.block ?_
  refine W.seq (W.region rfl ?_)
  refine WL.p h (Val.taY N9 hav) ?_
  refine WL.p h (Val.ext rfl rfl) ?_
  refine WL.p h (Val.ext rfl rfl) ?_
  refine WL.nil ?_
  refine W.condT rfl ?_
  refine W.seq (W.region rfl ?_)
  refine WL.p h Val.as ?_
  refine WL.nil ?_
  by_cases u4 : u.atom.k = 4
  · refine W.seq (W.region rfl ?_)
    refine WL.p h Val.mv ?_
    refine WL.p h (Val.taY N9 (hb.y9 u4)) ?_
    refine WL.p h Val.mv ?_
    refine WL.p h (Val.ext rfl rfl) ?_
    refine WL.p h (Val.ext rfl rfl) ?_
    refine WL.p h Val.as ?_
    refine WL.p h Val.as ?_
    refine WL.nil ?_
    refine W.seq (W.region rfl ?_)
    refine WL.p h Val.mv ?_
    refine WL.nil ?_
    refine W.condT rfl ?_
    refine W.seq (W.region rfl ?_)
    refine WL.p h Val.mv ?_
    refine WL.p h Val.mv ?_
    refine WL.p h (Val.sAdd (a := t.atom.t) (b := u.atom.t) rfl rfl (by have := (hyes u4).1; omega)) ?_
    refine WL.p h (Val.mkI (by kernel_rfl) rfl) ?_
    refine WL.call C92 (args := [.iface 9 (.string (t.atom.t ++ u.atom.t))]) rfl ((give_calls F _ h.sub (.text (t.atom.t ++ u.atom.t)) _ rfl (by simp [packV])).mono ?_)
    rintro e w' ⟨F8, r8, rfl, hE, hrep⟩
    have h := h.call hE
    refine ⟨_, rfl, ?_⟩
    refine WL.p h (Val.ext (v := r8) rfl rfl) ?_
    refine WL.p h (Val.ext (v := .string (giveV (.text (t.atom.t ++ u.atom.t))).2) rfl rfl) ?_
    refine WL.p h Val.as ?_
    refine WL.p h Val.as ?_
    refine WL.nil ?_
    refine W.ret ?_
    exact fin2 (v := r8) (x := .string (giveV (.text (t.atom.t ++ u.atom.t))).2) rfl rfl rfl (PVA.give h.toExt hrep (hyes u4).2 (by simp [packV]))
  · refine W.seq (W.region rfl ?_)
    refine WL.p h Val.mv ?_
    refine WL.p h (Val.taF N9 T9 rfl (hb.n9 u4)) ?_
    refine WL.p h Val.mv ?_
    refine WL.p h (Val.ext rfl rfl) ?_
    refine WL.p h (Val.ext rfl rfl) ?_
    refine WL.p h Val.as ?_
    refine WL.p h Val.as ?_
    refine WL.nil ?_
    refine W.seq (W.region rfl ?_)
    refine WL.p h Val.mv ?_
    refine WL.nil ?_
    refine W.condF rfl ?_
    refine W.skip ?_
    refine W.seq (W.region rfl ?_)
    refine WL.p h Val.mv ?_
    refine WL.p h (Val.taF N2 T2 rfl hn2) ?_
    refine WL.p h Val.mv ?_
    refine WL.p h (Val.ext rfl rfl) ?_
    refine WL.p h (Val.ext rfl rfl) ?_
    refine WL.p h Val.as ?_
    refine WL.p h Val.as ?_
    refine WL.nil ?_
    refine W.seq (W.region rfl ?_)
    refine WL.p h Val.mv ?_
    refine WL.p h (Val.ta2 rfl hT2) ?_
    refine WL.p h Val.mv ?_
    refine WL.p h (Val.ext rfl rfl) ?_
    refine WL.p h (Val.ext rfl rfl) ?_
    refine WL.p h Val.as ?_
    refine WL.p h Val.as ?_
    refine WL.nil ?_
    refine W.seq (W.seq (W.region rfl ?_))
    refine WL.p h Val.mv ?_
    refine WL.p h (Val.not rfl) ?_
    refine WL.p h Val.mv ?_
    refine WL.no rfl (WL.no rfl (?_))
    refine WL.p h (Val.pick rfl) ?_
    refine WL.nil ?_
    refine W.condT rfl ?_
    refine W.seq (W.region rfl ?_)
    refine WL.p h Val.as ?_
    refine WL.p h Val.as ?_
    refine WL.nil ?_
    refine W.ret ?_
    exact fin2 (v := .nilIface) (x := .string wType) rfl rfl rfl (PVA.no h.toExt (by exact hno u4) (by decide))
set_option maxHeartbeats 4000000 in
theorem op10l_calls (F : Fz) (w0 : World) (hF : Sub F (hv w0)) {a b : Value} {t u : T} (ha : Arg F t a) (hb : Arg F u b) (k5 : t.atom.k = 5) : Calls Try.prog 61 #[.int .i64 10, a, b] w0 (PVA F w0 (opT 10 t u)) := by
  obtain ⟨y, ok2, hk2, hy, hT2⟩ := hb.w2
  obtain ⟨k, va, us, hk, hkl, hav, hrow, hrs⟩ := ha.y110 k5
  have k4 : t.atom.k ≠ 4 := by omega
  have hn9 := ha.n9 k4
  have hn2 := ha.n2 (by omega)
  have hno : u.atom.k ≠ 5 → opT 10 t u = ([], wType) := fun e => by rw [opT, if_neg (show ¬ ((10 : Int) = 3) by decide), if_neg (show ¬ ((10 : Int) = 4) by decide), if_neg (show ¬ ((10 : Int) = 9) by decide), if_pos rfl, addA, if_pos (show t.atom.k ≠ u.atom.k by omega)]
  obtain ⟨k2, vb, us2, hkl2, hbv, hrow2, hrs2, hlaw, hbd⟩ := list_facts ha hb k5 hk
  have hlen : u.atom.k = 5 → 0 + t.kids.length + u.kids.length = (k.map It.v ++ k2).length := fun e => by have h1 := hrs.len; have h2 := (hrs2 e).len; have h3 := hrow.len; have h4 := (hrow2 e).len; rw [List.length_append]; omega
  refine calls 371 Try.func61 rfl rfl rfl ?_
  have h := Hp.start hF
  refine W.seq (W.region rfl ?_)
  refine WL.p h Val.as ?_
  refine WL.p h Val.as ?_
  refine WL.nil ?_
  refine W.seq (W.seq (W.region rfl ?_))
  refine WL.p h Val.mv ?_
  refine WL.p h (Val.lt (a := 10) (b := 1) rfl rfl) ?_
  refine WL.p h Val.mv ?_
  refine WL.p h Val.mv ?_
  refine WL.p h (Val.gt (a := 10) (b := 14) rfl rfl) ?_
  refine WL.p h (Val.pick rfl) ?_
  refine WL.nil ?_
  refine W.condF rfl ?_
  refine W.skip ?_
  refine W.seq (W.seq (W.region rfl ?_))
  refine WL.p h Val.mv ?_
  refine WL.nil ?_
  refine W.block ?_
  refine W.seq (W.region rfl ?_)
  refine WL.p h (Val.eq (a := 10) (b := 3) rfl rfl) ?_
  refine WL.p h Val.as ?_
  refine WL.nil ?_
  refine W.condF rfl ?_
  refine W.seq (W.region rfl ?_)
  refine WL.p h (Val.eq (a := 10) (b := 4) rfl rfl) ?_
  refine WL.p h Val.as ?_
  refine WL.nil ?_
  refine W.condF rfl ?_
  refine W.seq (W.seq (W.region rfl ?_))
  refine WL.p h (Val.eq (a := 10) (b := 5) rfl rfl) ?_
  refine WL.p h Val.as ?_
  refine WL.nil ?_
  refine W.condF rfl ?_
  refine W.seq (W.region rfl ?_)
  refine WL.p h (Val.eq (a := 10) (b := 6) rfl rfl) ?_
  refine WL.p h Val.as ?_
  refine WL.nil ?_
  refine W.condF rfl ?_
  refine W.seq (W.region rfl ?_)
  refine WL.p h (Val.eq (a := 10) (b := 7) rfl rfl) ?_
  refine WL.p h Val.as ?_
  refine WL.nil ?_
  refine W.condF rfl ?_
  refine W.region rfl ?_
  refine WL.p h (Val.eq (a := 10) (b := 8) rfl rfl) ?_
  refine WL.p h Val.as ?_
  refine WL.nil ?_
  refine W.condF rfl ?_
  refine W.seq (W.seq (W.region rfl ?_))
  refine WL.p h (Val.eq (a := 10) (b := 1) rfl rfl) ?_
  refine WL.p h Val.as ?_
  refine WL.nil ?_
  refine W.condF rfl ?_
  refine W.region rfl ?_
  refine WL.p h (Val.eq (a := 10) (b := 2) rfl rfl) ?_
  refine WL.p h Val.as ?_
  refine WL.nil ?_
  refine W.condF rfl ?_
  refine W.seq (W.region rfl ?_)
  refine WL.p h (Val.eq (a := 10) (b := 9) rfl rfl) ?_
  refine WL.p h Val.as ?_
  refine WL.nil ?_
  refine W.condF rfl ?_
  refine W.skip ?_
  refine W.seq (W.seq (W.region rfl ?_))
  refine WL.p h Val.mv ?_
  refine WL.p h (Val.eq (a := 10) (b := 10) rfl rfl) ?_
  refine WL.nil ?_
  refine W.condT rfl ?_
  refine W.seq (W.region rfl ?_)
  refine WL.p h Val.mv ?_
  refine WL.nil ?_
  refine W.block ?_
  refine W.seq (W.region rfl ?_)
  refine WL.p h (Val.taF N9 T9 rfl hn9) ?_
  refine WL.p h (Val.ext rfl rfl) ?_
  refine WL.p h (Val.ext rfl rfl) ?_
  refine WL.nil ?_
  refine W.condF rfl ?_
  refine W.seq (W.region rfl ?_)
  refine WL.p h (Val.taY N110 hav) ?_
  refine WL.p h (Val.ext rfl rfl) ?_
  refine WL.p h (Val.ext rfl rfl) ?_
  refine WL.nil ?_
  refine W.condT rfl ?_
  refine W.seq (W.region rfl ?_)
  refine WL.p h Val.as ?_
  refine WL.nil ?_
  by_cases u4 : u.atom.k = 5
  · refine W.seq (W.region rfl ?_)
    refine WL.p h Val.mv ?_
    refine WL.p h (Val.taY N110 (hbv u4)) ?_
    refine WL.p h Val.mv ?_
    refine WL.p h (Val.ext rfl rfl) ?_
    refine WL.p h (Val.ext rfl rfl) ?_
    refine WL.p h Val.as ?_
    refine WL.p h Val.as ?_
    refine WL.nil ?_
    refine W.seq (W.region rfl ?_)
    refine WL.p h Val.mv ?_
    refine WL.nil ?_
    refine W.condT rfl ?_
    refine W.seq (W.region rfl ?_)
    refine WL.bs0 h Try.underlying110 T71 (fun b9 w h => ?_)
    refine WL.p h Val.mv ?_
    refine WL.appR 0 h rfl Try.underlying110 T71 (by decide) rfl rfl (hrow.mono h.sub) hrs.one (by omega) (by omega) (fun kv w h => ?_)
    refine WL.p h Val.mv ?_
    refine WL.appR 0 h rfl Try.underlying110 T71 (by decide) rfl rfl ((hrow2 u4).mono h.sub) (hrs2 u4).one (by have := hkl2 u4; omega) (by have := hkl2 u4; omega) (fun kv w h => ?_)
    refine WL.p h (Val.mkI (by kernel_rfl) rfl) ?_
    refine WL.call C92 (args := [.iface 110 kv]) rfl ((giveL_calls h hrs (hrs2 u4) (hlen u4) (hbd u4)).mono ?_)
    rintro e w' ⟨F8, r8, rfl, h, hrep⟩
    refine ⟨_, rfl, ?_⟩
    refine WL.p h (Val.ext (v := r8) rfl rfl) ?_
    refine WL.p h (Val.ext (v := .string (giveV (.list (k.map It.v ++ k2))).2) rfl rfl) ?_
    refine WL.p h Val.as ?_
    refine WL.p h Val.as ?_
    refine WL.nil ?_
    refine W.ret ?_
    exact fin2 (v := r8) (x := .string (giveV (.list (k.map It.v ++ k2))).2) rfl rfl rfl (PVA.give h.toExt hrep (hlaw u4) (hbd u4))
  · refine W.seq (W.region rfl ?_)
    refine WL.p h Val.mv ?_
    refine WL.p h (Val.taF N110 T110 rfl (hb.n110 u4)) ?_
    refine WL.p h Val.mv ?_
    refine WL.p h (Val.ext rfl rfl) ?_
    refine WL.p h (Val.ext rfl rfl) ?_
    refine WL.p h Val.as ?_
    refine WL.p h Val.as ?_
    refine WL.nil ?_
    refine W.seq (W.region rfl ?_)
    refine WL.p h Val.mv ?_
    refine WL.nil ?_
    refine W.condF rfl ?_
    refine W.skip ?_
    refine W.seq (W.region rfl ?_)
    refine WL.p h Val.mv ?_
    refine WL.p h (Val.taF N2 T2 rfl hn2) ?_
    refine WL.p h Val.mv ?_
    refine WL.p h (Val.ext rfl rfl) ?_
    refine WL.p h (Val.ext rfl rfl) ?_
    refine WL.p h Val.as ?_
    refine WL.p h Val.as ?_
    refine WL.nil ?_
    refine W.seq (W.region rfl ?_)
    refine WL.p h Val.mv ?_
    refine WL.p h (Val.ta2 rfl hT2) ?_
    refine WL.p h Val.mv ?_
    refine WL.p h (Val.ext rfl rfl) ?_
    refine WL.p h (Val.ext rfl rfl) ?_
    refine WL.p h Val.as ?_
    refine WL.p h Val.as ?_
    refine WL.nil ?_
    refine W.seq (W.seq (W.region rfl ?_))
    refine WL.p h Val.mv ?_
    refine WL.p h (Val.not rfl) ?_
    refine WL.p h Val.mv ?_
    refine WL.no rfl (WL.no rfl (?_))
    refine WL.p h (Val.pick rfl) ?_
    refine WL.nil ?_
    refine W.condT rfl ?_
    refine W.seq (W.region rfl ?_)
    refine WL.p h Val.as ?_
    refine WL.p h Val.as ?_
    refine WL.nil ?_
    refine W.ret ?_
    exact fin2 (v := .nilIface) (x := .string wType) rfl rfl rfl (PVA.no h.toExt (by exact hno u4) (by decide))
set_option maxHeartbeats 4000000 in
theorem op10y_calls (F : Fz) (w0 : World) (hF : Sub F (hv w0)) {a b : Value} {t u : T} (ha : Arg F t a) (hb : Arg F u b) (k6 : t.atom.k = 6) (u4 : u.atom.k = 6) : Calls Try.prog 61 #[.int .i64 10, a, b] w0 (PVA F w0 (opT 10 t u)) := by
  obtain ⟨y, ok2, hk2, hy, hT2⟩ := hb.w2
  obtain ⟨xa, ya, D, hav, hD⟩ := ha.y112 k6
  have k4 : t.atom.k ≠ 4 := by omega
  have k5 : t.atom.k ≠ 5 := by omega
  have hn9 := ha.n9 k4
  have hn110 := ha.n110 k5
  have hn2 := ha.n2 (by omega)
  have hone := rec_one hD
  have hno : u.atom.k ≠ 6 → opT 10 t u = ([], wType) := fun e => by rw [opT, if_neg (show ¬ ((10 : Int) = 3) by decide), if_neg (show ¬ ((10 : Int) = 4) by decide), if_neg (show ¬ ((10 : Int) = 9) by decide), if_pos rfl, addA, if_pos (show t.atom.k ≠ u.atom.k by omega)]
  obtain ⟨xb, yb, E, hbv, hE⟩ := hb.y112 u4
  have hone2 := rec_one hE
  obtain ⟨ns, vs, us, e1, e2, e3, e4, hreps, hlaw0, hbd⟩ := record_union ha.vt hb.vt hD hE _ rfl
  have hlaw : outA (giveV (.record ns vs)) = opT 10 t u := by rw [opT, if_neg (show ¬ ((10 : Int) = 3) by decide), if_neg (show ¬ ((10 : Int) = 4) by decide), if_neg (show ¬ ((10 : Int) = 9) by decide), if_pos rfl, addA, if_neg (show ¬ t.atom.k ≠ u.atom.k by omega), if_neg (by omega), if_neg k4, if_neg k5, if_pos k6, hlaw0]
  have hDl := hD.len
  have hEl := hE.len
  have hb1 := rec_keys hD
  have hb2 := rec_keys hE
  have hK1 : ∀ j, KeyB (updAll [] ((vals D).take j)) := fun j => keyb_upd (by simp [KeyB]) (fun p hp => hb1 p (List.mem_of_mem_take hp))
  have hN1 : ∀ j, (keysM (updAll [] ((vals D).take j))).Nodup := fun j => updAll_nodup _ _ (by simp [keysM])
  have hM1 : updAll [] ((vals D).take D.length) = updAll [] (vals D) := by rw [List.take_of_length_le (by simp [vals])]
  have hKm : KeyB (updAll [] (vals D)) := hM1 ▸ hK1 _
  have hNm := hM1 ▸ hN1 D.length
  have hK2 : ∀ j, KeyB (updAll (updAll [] (vals D)) ((vals E).take j)) := fun j => keyb_upd hKm (fun p hp => hb2 p (List.mem_of_mem_take hp))
  have hN2 : ∀ j, (keysM (updAll (updAll [] (vals D)) ((vals E).take j))).Nodup := fun j => updAll_nodup _ _ hNm
  have hM2 : updAll (updAll [] (vals D)) ((vals E).take E.length) = updAll (updAll [] (vals D)) (vals E) := by rw [List.take_of_length_le (by simp [vals])]
  have hVm := vals_one hD hE
  have hLm : (updAll (updAll [] (vals D)) (vals E)).length ≤ 1048576 := by have h1 := updAll_len (vals E) (updAll [] (vals D)); have h2 := updAll_len (vals D) []; simp only [vals, List.length_map, List.length_nil] at h1 h2 ⊢; omega
  refine calls 371 Try.func61 rfl rfl rfl ?_
  have h := Hp.start hF
  refine W.seq (W.region rfl ?_)
  refine WL.p h Val.as ?_
  refine WL.p h Val.as ?_
  refine WL.nil ?_
  refine W.seq (W.seq (W.region rfl ?_))
  refine WL.p h Val.mv ?_
  refine WL.p h (Val.lt (a := 10) (b := 1) rfl rfl) ?_
  refine WL.p h Val.mv ?_
  refine WL.p h Val.mv ?_
  refine WL.p h (Val.gt (a := 10) (b := 14) rfl rfl) ?_
  refine WL.p h (Val.pick rfl) ?_
  refine WL.nil ?_
  refine W.condF rfl ?_
  refine W.skip ?_
  refine W.seq (W.seq (W.region rfl ?_))
  refine WL.p h Val.mv ?_
  refine WL.nil ?_
  refine W.block ?_
  refine W.seq (W.region rfl ?_)
  refine WL.p h (Val.eq (a := 10) (b := 3) rfl rfl) ?_
  refine WL.p h Val.as ?_
  refine WL.nil ?_
  refine W.condF rfl ?_
  refine W.seq (W.region rfl ?_)
  refine WL.p h (Val.eq (a := 10) (b := 4) rfl rfl) ?_
  refine WL.p h Val.as ?_
  refine WL.nil ?_
  refine W.condF rfl ?_
  refine W.seq (W.seq (W.region rfl ?_))
  refine WL.p h (Val.eq (a := 10) (b := 5) rfl rfl) ?_
  refine WL.p h Val.as ?_
  refine WL.nil ?_
  refine W.condF rfl ?_
  refine W.seq (W.region rfl ?_)
  refine WL.p h (Val.eq (a := 10) (b := 6) rfl rfl) ?_
  refine WL.p h Val.as ?_
  refine WL.nil ?_
  refine W.condF rfl ?_
  refine W.seq (W.region rfl ?_)
  refine WL.p h (Val.eq (a := 10) (b := 7) rfl rfl) ?_
  refine WL.p h Val.as ?_
  refine WL.nil ?_
  refine W.condF rfl ?_
  refine W.region rfl ?_
  refine WL.p h (Val.eq (a := 10) (b := 8) rfl rfl) ?_
  refine WL.p h Val.as ?_
  refine WL.nil ?_
  refine W.condF rfl ?_
  refine W.seq (W.seq (W.region rfl ?_))
  refine WL.p h (Val.eq (a := 10) (b := 1) rfl rfl) ?_
  refine WL.p h Val.as ?_
  refine WL.nil ?_
  refine W.condF rfl ?_
  refine W.region rfl ?_
  refine WL.p h (Val.eq (a := 10) (b := 2) rfl rfl) ?_
  refine WL.p h Val.as ?_
  refine WL.nil ?_
  refine W.condF rfl ?_
  refine W.seq (W.region rfl ?_)
  refine WL.p h (Val.eq (a := 10) (b := 9) rfl rfl) ?_
  refine WL.p h Val.as ?_
  refine WL.nil ?_
  refine W.condF rfl ?_
  refine W.skip ?_
  refine W.seq (W.seq (W.region rfl ?_))
  refine WL.p h Val.mv ?_
  refine WL.p h (Val.eq (a := 10) (b := 10) rfl rfl) ?_
  refine WL.nil ?_
  refine W.condT rfl ?_
  refine W.seq (W.region rfl ?_)
  refine WL.p h Val.mv ?_
  refine WL.nil ?_
  refine W.block ?_
  refine W.seq (W.region rfl ?_)
  refine WL.p h (Val.taF N9 T9 rfl hn9) ?_
  refine WL.p h (Val.ext rfl rfl) ?_
  refine WL.p h (Val.ext rfl rfl) ?_
  refine WL.nil ?_
  refine W.condF rfl ?_
  refine W.seq (W.region rfl ?_)
  refine WL.p h (Val.taF N110 T110 rfl hn110) ?_
  refine WL.p h (Val.ext rfl rfl) ?_
  refine WL.p h (Val.ext rfl rfl) ?_
  refine WL.nil ?_
  refine W.condF rfl ?_
  refine W.seq (W.region rfl ?_)
  refine WL.p h (Val.taY N112 hav) ?_
  refine WL.p h (Val.ext rfl rfl) ?_
  refine WL.p h (Val.ext rfl rfl) ?_
  refine WL.nil ?_
  refine W.condT rfl ?_
  refine W.seq (W.region rfl ?_)
  refine WL.alloc h T112 (fun b29 w h => ?_)
  refine WL.stS 0 h rfl T112 rfl (vs := [xa, ya]) rfl hone rfl rfl (fun w h => ?_)
  refine WL.nil ?_
  refine W.seq (W.region rfl ?_)
  refine WL.p h Val.mv ?_
  refine WL.p h (Val.taY N112 (hbv)) ?_
  refine WL.p h Val.mv ?_
  refine WL.p h (Val.ext rfl rfl) ?_
  refine WL.p h (Val.ext rfl rfl) ?_
  refine WL.alloc h T112 (fun b30 w h => ?_)
  refine WL.stS 1 h rfl T112 rfl (vs := [xb, yb]) rfl hone2 rfl rfl (fun w h => ?_)
  refine WL.p h Val.as ?_
  refine WL.nil ?_
  refine W.seq (W.region rfl ?_)
  refine WL.p h Val.mv ?_
  refine WL.nil ?_
  refine W.condT rfl ?_
  refine W.seq (W.region rfl ?_)
  refine WL.makeMap h (fun bm w h => ?_)
  refine WL.p h Val.as ?_
  refine WL.nil ?_
  refine W.seq (W.seq (W.region rfl ?_))
  refine WL.p h (Val.fa O112_0 rfl) ?_
  refine WL.p h (Val.ld 0 A24 rfl rfl rfl) ?_
  refine WL.p h (Val.len Try.underlying24 rfl hD.rowX.val) ?_
  refine WL.p h Val.mv ?_
  refine WL.nil ?_
  refine W.block ?_
  refine W.loop (fun m R w => ∃ j, m + j = D.length ∧ Hp w0 F F [.box b29 [xa, ya] 112, .box b30 [xb, yb] 112, .obj bm (mobj (updAll [] ((vals D).take j)))] w ∧ R 29 = pt b29 ∧ R 30 = pt b30 ∧ R 32 = .map (some bm) ∧ R 244 = xa ∧ R 245 = .int .i64 (D.length : Int) ∧ R 246 = .int .i64 (j : Int)) D.length ⟨0, by omega, h, rfl, rfl, rfl, rfl, rfl, rfl⟩ (fun m R w hI => ?_)
  clear h
  obtain ⟨j, hm, h, h29, h30, h32, h244, h245, h246⟩ := hI
  refine W.seq (W.region rfl ?_)
  refine WL.p h (Val.lt h246 h245) ?_
  refine WL.dec (fun c1 => ?_) (fun c1 => ?_)
  · have hp : D[j]? = some D[j] := List.getElem?_eq_getElem (by omega)
    have hx : (D.map fun p => Value.string p.1)[j * 1]? = some (.string D[j].1) := by rw [Nat.mul_one, List.getElem?_map, hp]; rfl
    have hy2 : (D.map fun p => p.2.2.2)[j * 1]? = some D[j].2.2.2 := by rw [Nat.mul_one, List.getElem?_map, hp]; rfl
    have hs : D[j].1.size ≤ 1000 := (hD.each _ (List.getElem_mem _)).1
    have hst : updM (updAll [] ((vals D).take j)) D[j].1 D[j].2.2.2 = updAll [] ((vals D).take (j + 1)) := (upd_step [] hp)
    refine WL.nil ?_
    refine W.seq ?_
    refine W.condT rfl ?_
    refine W.skip ?_
    refine W.seq (W.block ?_)
    refine W.seq (W.region rfl ?_)
    refine WL.p h Val.mv ?_
    refine WL.p h (Val.ix (i := j) Try.underlying24 T9 h244 h246 (hD.rowX.slice (by omega)) (by omega)) ?_
    refine WL.p h (Val.ldR A9 hD.rowX rfl hx) ?_
    refine WL.p h Val.as ?_
    refine WL.p h Val.as ?_
    refine WL.nil ?_
    refine W.region rfl ?_
    refine WL.p h Val.mv ?_
    refine WL.p h Val.mv ?_
    refine WL.p h (Val.fa O112_1 h29) ?_
    refine WL.p h (Val.ld 0 A109 rfl rfl rfl) ?_
    refine WL.p h Val.mv ?_
    refine WL.p h (Val.ix (i := j) Try.underlying109 T71 rfl h246 (hD.rowY.slice (by omega)) (by omega)) ?_
    refine WL.p h (Val.ldR A71 hD.rowY rfl hy2) ?_
    refine WL.mapUp 2 h rfl Try.underlying142 Try.underlying9 (hK1 j) (hN1 j) h32 rfl rfl (by omega) (fun w h => ?_)
    have h : Hp w0 F F [.box b29 [xa, ya] 112, .box b30 [xb, yb] 112, .obj bm (mobj (updM (updAll [] ((vals D).take j)) D[j].1 D[j].2.2.2))] w := h
    refine WL.nil ?_
    refine W.region rfl ?_
    refine WL.p h (Val.addi (c := ((j + 1 : Nat) : Int)) h246 rfl (by omega)) ?_
    refine WL.p h Val.mv ?_
    refine WL.nil ?_
    exact ⟨m - 1, by omega, j + 1, by omega, hst ▸ h, h29, h30, h32, h244, h245, rfl⟩
  · have hj : j = D.length := by omega
    subst hj
    have h : Hp w0 F F [.box b29 [xa, ya] 112, .box b30 [xb, yb] 112, .obj bm (mobj (updAll [] (vals D)))] w := hM1 ▸ h
    refine WL.nil ?_
    refine W.seq ?_
    refine W.condF rfl ?_
    refine W.exit ?_
    refine W.seq (W.seq (W.region rfl ?_))
    refine WL.p h (Val.fa O112_0 h30) ?_
    refine WL.p h (Val.ld 1 A24 rfl rfl rfl) ?_
    refine WL.p h (Val.len Try.underlying24 rfl hE.rowX.val) ?_
    refine WL.p h Val.mv ?_
    refine WL.nil ?_
    refine W.block ?_
    refine W.loop (fun m R w => ∃ j, m + j = E.length ∧ Hp w0 F F [.box b29 [xa, ya] 112, .box b30 [xb, yb] 112, .obj bm (mobj (updAll (updAll [] (vals D)) ((vals E).take j)))] w ∧ R 30 = pt b30 ∧ R 32 = .map (some bm) ∧ R 260 = xb ∧ R 261 = .int .i64 (E.length : Int) ∧ R 262 = .int .i64 (j : Int)) E.length ⟨0, by omega, h, h30, h32, rfl, rfl, rfl⟩ (fun m R w hI => ?_)
    clear h h29 h30 h32 h244 h245 h246
    obtain ⟨j, hm, h, h30, h32, h260, h261, h262⟩ := hI
    refine W.seq (W.region rfl ?_)
    refine WL.p h (Val.lt h262 h261) ?_
    refine WL.dec (fun c1 => ?_) (fun c1 => ?_)
    · have hp : E[j]? = some E[j] := List.getElem?_eq_getElem (by omega)
      have hx : (E.map fun p => Value.string p.1)[j * 1]? = some (.string E[j].1) := by rw [Nat.mul_one, List.getElem?_map, hp]; rfl
      have hy2 : (E.map fun p => p.2.2.2)[j * 1]? = some E[j].2.2.2 := by rw [Nat.mul_one, List.getElem?_map, hp]; rfl
      have hs : E[j].1.size ≤ 1000 := (hE.each _ (List.getElem_mem _)).1
      have hst : updM (updAll (updAll [] (vals D)) ((vals E).take j)) E[j].1 E[j].2.2.2 = updAll (updAll [] (vals D)) ((vals E).take (j + 1)) := (upd_step _ hp)
      refine WL.nil ?_
      refine W.seq ?_
      refine W.condT rfl ?_
      refine W.skip ?_
      refine W.seq (W.block ?_)
      refine W.seq (W.region rfl ?_)
      refine WL.p h Val.mv ?_
      refine WL.p h (Val.ix (i := j) Try.underlying24 T9 h260 h262 (hE.rowX.slice (by omega)) (by omega)) ?_
      refine WL.p h (Val.ldR A9 hE.rowX rfl hx) ?_
      refine WL.p h Val.as ?_
      refine WL.p h Val.as ?_
      refine WL.nil ?_
      refine W.region rfl ?_
      refine WL.p h Val.mv ?_
      refine WL.p h Val.mv ?_
      refine WL.p h (Val.fa O112_1 h30) ?_
      refine WL.p h (Val.ld 1 A109 rfl rfl rfl) ?_
      refine WL.p h Val.mv ?_
      refine WL.p h (Val.ix (i := j) Try.underlying109 T71 rfl h262 (hE.rowY.slice (by omega)) (by omega)) ?_
      refine WL.p h (Val.ldR A71 hE.rowY rfl hy2) ?_
      refine WL.mapUp 2 h rfl Try.underlying142 Try.underlying9 (hK2 j) (hN2 j) h32 rfl rfl (by omega) (fun w h => ?_)
      have h : Hp w0 F F [.box b29 [xa, ya] 112, .box b30 [xb, yb] 112, .obj bm (mobj (updM (updAll (updAll [] (vals D)) ((vals E).take j)) E[j].1 E[j].2.2.2))] w := h
      refine WL.nil ?_
      refine W.region rfl ?_
      refine WL.p h (Val.addi (c := ((j + 1 : Nat) : Int)) h262 rfl (by omega)) ?_
      refine WL.p h Val.mv ?_
      refine WL.nil ?_
      exact ⟨m - 1, by omega, j + 1, by omega, hst ▸ h, h30, h32, h260, h261, rfl⟩
    · have hj : j = E.length := by omega
      subst hj
      have h : Hp w0 F F [.box b29 [xa, ya] 112, .box b30 [xb, yb] 112, .obj bm (mobj (updAll (updAll [] (vals D)) (vals E)))] w := hM2 ▸ h
      refine WL.nil ?_
      refine W.seq ?_
      refine W.condF rfl ?_
      refine W.exit ?_
      refine W.seq (W.region rfl ?_)
      refine WL.p h Val.mv ?_
      refine WL.call C93 (args := [.map (some bm)]) (congrArg (fun x => [x]) h32) ((fm_calls h (hM2 ▸ hK2 E.length) (hM2 ▸ hN2 E.length) hVm hLm e1 e2 e3 e4 hreps).mono ?_)
      rintro e w' ⟨F2, v2, rfl, h, hrep2⟩
      refine ⟨_, rfl, ?_⟩
      refine WL.p h (Val.mkI (by kernel_rfl) rfl) ?_
      refine WL.call C92 (args := [.iface 112 v2]) rfl ((give_calls F2 _ h.sub (.record ns vs) _ hrep2 hbd).mono ?_)
      rintro e w' ⟨F8, r8, rfl, hE, hrep⟩
      have h := h.call hE
      refine ⟨_, rfl, ?_⟩
      refine WL.p h (Val.ext (v := r8) rfl rfl) ?_
      refine WL.p h (Val.ext (v := .string (giveV (.record ns vs)).2) rfl rfl) ?_
      refine WL.p h Val.as ?_
      refine WL.p h Val.as ?_
      refine WL.nil ?_
      refine W.ret ?_
      exact fin2 (v := r8) (x := .string (giveV (.record ns vs)).2) rfl rfl rfl (PVA.give h.toExt hrep hlaw hbd)
set_option maxHeartbeats 4000000 in
theorem op10x_calls (F : Fz) (w0 : World) (hF : Sub F (hv w0)) {a b : Value} {t u : T} (ha : Arg F t a) (hb : Arg F u b) (k6 : t.atom.k = 6) (u4 : ¬ u.atom.k = 6) : Calls Try.prog 61 #[.int .i64 10, a, b] w0 (PVA F w0 (opT 10 t u)) := by
  obtain ⟨y, ok2, hk2, hy, hT2⟩ := hb.w2
  obtain ⟨xa, ya, D, hav, hD⟩ := ha.y112 k6
  have k4 : t.atom.k ≠ 4 := by omega
  have k5 : t.atom.k ≠ 5 := by omega
  have hn9 := ha.n9 k4
  have hn110 := ha.n110 k5
  have hn2 := ha.n2 (by omega)
  have hone := rec_one hD
  have hno : u.atom.k ≠ 6 → opT 10 t u = ([], wType) := fun e => by rw [opT, if_neg (show ¬ ((10 : Int) = 3) by decide), if_neg (show ¬ ((10 : Int) = 4) by decide), if_neg (show ¬ ((10 : Int) = 9) by decide), if_pos rfl, addA, if_pos (show t.atom.k ≠ u.atom.k by omega)]
  refine calls 371 Try.func61 rfl rfl rfl ?_
  have h := Hp.start hF
  refine W.seq (W.region rfl ?_)
  refine WL.p h Val.as ?_
  refine WL.p h Val.as ?_
  refine WL.nil ?_
  refine W.seq (W.seq (W.region rfl ?_))
  refine WL.p h Val.mv ?_
  refine WL.p h (Val.lt (a := 10) (b := 1) rfl rfl) ?_
  refine WL.p h Val.mv ?_
  refine WL.p h Val.mv ?_
  refine WL.p h (Val.gt (a := 10) (b := 14) rfl rfl) ?_
  refine WL.p h (Val.pick rfl) ?_
  refine WL.nil ?_
  refine W.condF rfl ?_
  refine W.skip ?_
  refine W.seq (W.seq (W.region rfl ?_))
  refine WL.p h Val.mv ?_
  refine WL.nil ?_
  refine W.block ?_
  refine W.seq (W.region rfl ?_)
  refine WL.p h (Val.eq (a := 10) (b := 3) rfl rfl) ?_
  refine WL.p h Val.as ?_
  refine WL.nil ?_
  refine W.condF rfl ?_
  refine W.seq (W.region rfl ?_)
  refine WL.p h (Val.eq (a := 10) (b := 4) rfl rfl) ?_
  refine WL.p h Val.as ?_
  refine WL.nil ?_
  refine W.condF rfl ?_
  refine W.seq (W.seq (W.region rfl ?_))
  refine WL.p h (Val.eq (a := 10) (b := 5) rfl rfl) ?_
  refine WL.p h Val.as ?_
  refine WL.nil ?_
  refine W.condF rfl ?_
  refine W.seq (W.region rfl ?_)
  refine WL.p h (Val.eq (a := 10) (b := 6) rfl rfl) ?_
  refine WL.p h Val.as ?_
  refine WL.nil ?_
  refine W.condF rfl ?_
  refine W.seq (W.region rfl ?_)
  refine WL.p h (Val.eq (a := 10) (b := 7) rfl rfl) ?_
  refine WL.p h Val.as ?_
  refine WL.nil ?_
  refine W.condF rfl ?_
  refine W.region rfl ?_
  refine WL.p h (Val.eq (a := 10) (b := 8) rfl rfl) ?_
  refine WL.p h Val.as ?_
  refine WL.nil ?_
  refine W.condF rfl ?_
  refine W.seq (W.seq (W.region rfl ?_))
  refine WL.p h (Val.eq (a := 10) (b := 1) rfl rfl) ?_
  refine WL.p h Val.as ?_
  refine WL.nil ?_
  refine W.condF rfl ?_
  refine W.region rfl ?_
  refine WL.p h (Val.eq (a := 10) (b := 2) rfl rfl) ?_
  refine WL.p h Val.as ?_
  refine WL.nil ?_
  refine W.condF rfl ?_
  refine W.seq (W.region rfl ?_)
  refine WL.p h (Val.eq (a := 10) (b := 9) rfl rfl) ?_
  refine WL.p h Val.as ?_
  refine WL.nil ?_
  refine W.condF rfl ?_
  refine W.skip ?_
  refine W.seq (W.seq (W.region rfl ?_))
  refine WL.p h Val.mv ?_
  refine WL.p h (Val.eq (a := 10) (b := 10) rfl rfl) ?_
  refine WL.nil ?_
  refine W.condT rfl ?_
  refine W.seq (W.region rfl ?_)
  refine WL.p h Val.mv ?_
  refine WL.nil ?_
  refine W.block ?_
  refine W.seq (W.region rfl ?_)
  refine WL.p h (Val.taF N9 T9 rfl hn9) ?_
  refine WL.p h (Val.ext rfl rfl) ?_
  refine WL.p h (Val.ext rfl rfl) ?_
  refine WL.nil ?_
  refine W.condF rfl ?_
  refine W.seq (W.region rfl ?_)
  refine WL.p h (Val.taF N110 T110 rfl hn110) ?_
  refine WL.p h (Val.ext rfl rfl) ?_
  refine WL.p h (Val.ext rfl rfl) ?_
  refine WL.nil ?_
  refine W.condF rfl ?_
  refine W.seq (W.region rfl ?_)
  refine WL.p h (Val.taY N112 hav) ?_
  refine WL.p h (Val.ext rfl rfl) ?_
  refine WL.p h (Val.ext rfl rfl) ?_
  refine WL.nil ?_
  refine W.condT rfl ?_
  refine W.seq (W.region rfl ?_)
  refine WL.alloc h T112 (fun b29 w h => ?_)
  refine WL.stS 0 h rfl T112 rfl (vs := [xa, ya]) rfl hone rfl rfl (fun w h => ?_)
  refine WL.nil ?_
  refine W.seq (W.region rfl ?_)
  refine WL.p h Val.mv ?_
  refine WL.p h (Val.taF N112 T112 rfl (hb.n112 u4)) ?_
  refine WL.p h Val.mv ?_
  refine WL.p h (Val.ext rfl rfl) ?_
  refine WL.p h (Val.ext rfl rfl) ?_
  refine WL.alloc h T112 (fun b30 w h => ?_)
  refine WL.stS 1 h rfl T112 rfl (vs := [.slice none 0 0, .slice none 0 0]) rfl (by simp [Value.oneCell']) rfl rfl (fun w h => ?_)
  refine WL.p h Val.as ?_
  refine WL.nil ?_
  refine W.seq (W.region rfl ?_)
  refine WL.p h Val.mv ?_
  refine WL.nil ?_
  refine W.condF rfl ?_
  refine W.skip ?_
  refine W.seq (W.region rfl ?_)
  refine WL.p h Val.mv ?_
  refine WL.p h (Val.taF N2 T2 rfl hn2) ?_
  refine WL.p h Val.mv ?_
  refine WL.p h (Val.ext rfl rfl) ?_
  refine WL.p h (Val.ext rfl rfl) ?_
  refine WL.p h Val.as ?_
  refine WL.p h Val.as ?_
  refine WL.nil ?_
  refine W.seq (W.region rfl ?_)
  refine WL.p h Val.mv ?_
  refine WL.p h (Val.ta2 rfl hT2) ?_
  refine WL.p h Val.mv ?_
  refine WL.p h (Val.ext rfl rfl) ?_
  refine WL.p h (Val.ext rfl rfl) ?_
  refine WL.p h Val.as ?_
  refine WL.p h Val.as ?_
  refine WL.nil ?_
  refine W.seq (W.seq (W.region rfl ?_))
  refine WL.p h Val.mv ?_
  refine WL.p h (Val.not rfl) ?_
  refine WL.p h Val.mv ?_
  refine WL.no rfl (WL.no rfl (?_))
  refine WL.p h (Val.pick rfl) ?_
  refine WL.nil ?_
  refine W.condT rfl ?_
  refine W.seq (W.region rfl ?_)
  refine WL.p h Val.as ?_
  refine WL.p h Val.as ?_
  refine WL.nil ?_
  refine W.ret ?_
  exact fin2 (v := .nilIface) (x := .string wType) rfl rfl rfl (PVA.no h.toExt (by exact hno u4) (by decide))
set_option maxHeartbeats 4000000 in
theorem op10n_calls (F : Fz) (w0 : World) (hF : Sub F (hv w0)) {a b : Value} {t u : T} (ha : Arg F t a) (hb : Arg F u b) (k4 : t.atom.k ≠ 4) (k5 : t.atom.k ≠ 5) (k6 : t.atom.k ≠ 6) : Calls Try.prog 61 #[.int .i64 10, a, b] w0 (PVA F w0 (opT 10 t u)) := by
  obtain ⟨x, ok1, hk1, hx, hT1⟩ := ha.w2
  obtain ⟨y, ok2, hk2, hy, hT2⟩ := hb.w2
  have hn9 := ha.n9 k4
  have hn110 := ha.n110 k5
  have hn112 := ha.n112 k6
  have hfall : t.atom.k = u.atom.k → t.atom.k ≠ 4 ∧ t.atom.k ≠ 5 ∧ t.atom.k ≠ 6 := fun _ => ⟨k4, k5, k6⟩
  refine calls 371 Try.func61 rfl rfl rfl ?_
  have h := Hp.start hF
  refine W.seq (W.region rfl ?_)
  refine WL.p h Val.as ?_
  refine WL.p h Val.as ?_
  refine WL.nil ?_
  refine W.seq (W.seq (W.region rfl ?_))
  refine WL.p h Val.mv ?_
  refine WL.p h (Val.lt (a := 10) (b := 1) rfl rfl) ?_
  refine WL.p h Val.mv ?_
  refine WL.p h Val.mv ?_
  refine WL.p h (Val.gt (a := 10) (b := 14) rfl rfl) ?_
  refine WL.p h (Val.pick rfl) ?_
  refine WL.nil ?_
  refine W.condF rfl ?_
  refine W.skip ?_
  refine W.seq (W.seq (W.region rfl ?_))
  refine WL.p h Val.mv ?_
  refine WL.nil ?_
  refine W.block ?_
  refine W.seq (W.region rfl ?_)
  refine WL.p h (Val.eq (a := 10) (b := 3) rfl rfl) ?_
  refine WL.p h Val.as ?_
  refine WL.nil ?_
  refine W.condF rfl ?_
  refine W.seq (W.region rfl ?_)
  refine WL.p h (Val.eq (a := 10) (b := 4) rfl rfl) ?_
  refine WL.p h Val.as ?_
  refine WL.nil ?_
  refine W.condF rfl ?_
  refine W.seq (W.seq (W.region rfl ?_))
  refine WL.p h (Val.eq (a := 10) (b := 5) rfl rfl) ?_
  refine WL.p h Val.as ?_
  refine WL.nil ?_
  refine W.condF rfl ?_
  refine W.seq (W.region rfl ?_)
  refine WL.p h (Val.eq (a := 10) (b := 6) rfl rfl) ?_
  refine WL.p h Val.as ?_
  refine WL.nil ?_
  refine W.condF rfl ?_
  refine W.seq (W.region rfl ?_)
  refine WL.p h (Val.eq (a := 10) (b := 7) rfl rfl) ?_
  refine WL.p h Val.as ?_
  refine WL.nil ?_
  refine W.condF rfl ?_
  refine W.region rfl ?_
  refine WL.p h (Val.eq (a := 10) (b := 8) rfl rfl) ?_
  refine WL.p h Val.as ?_
  refine WL.nil ?_
  refine W.condF rfl ?_
  refine W.seq (W.seq (W.region rfl ?_))
  refine WL.p h (Val.eq (a := 10) (b := 1) rfl rfl) ?_
  refine WL.p h Val.as ?_
  refine WL.nil ?_
  refine W.condF rfl ?_
  refine W.region rfl ?_
  refine WL.p h (Val.eq (a := 10) (b := 2) rfl rfl) ?_
  refine WL.p h Val.as ?_
  refine WL.nil ?_
  refine W.condF rfl ?_
  refine W.seq (W.region rfl ?_)
  refine WL.p h (Val.eq (a := 10) (b := 9) rfl rfl) ?_
  refine WL.p h Val.as ?_
  refine WL.nil ?_
  refine W.condF rfl ?_
  refine W.skip ?_
  refine W.seq (W.seq (W.region rfl ?_))
  refine WL.p h Val.mv ?_
  refine WL.p h (Val.eq (a := 10) (b := 10) rfl rfl) ?_
  refine WL.nil ?_
  refine W.condT rfl ?_
  refine W.seq (W.region rfl ?_)
  refine WL.p h Val.mv ?_
  refine WL.nil ?_
  refine W.block ?_
  refine W.seq (W.region rfl ?_)
  refine WL.p h (Val.taF N9 T9 rfl hn9) ?_
  refine WL.p h (Val.ext rfl rfl) ?_
  refine WL.p h (Val.ext rfl rfl) ?_
  refine WL.nil ?_
  refine W.condF rfl ?_
  refine W.seq (W.region rfl ?_)
  refine WL.p h (Val.taF N110 T110 rfl hn110) ?_
  refine WL.p h (Val.ext rfl rfl) ?_
  refine WL.p h (Val.ext rfl rfl) ?_
  refine WL.nil ?_
  refine W.condF rfl ?_
  refine W.seq (W.region rfl ?_)
  refine WL.p h (Val.taF N112 T112 rfl hn112) ?_
  refine WL.p h (Val.ext rfl rfl) ?_
  refine WL.p h (Val.ext rfl rfl) ?_
  refine WL.nil ?_
  refine W.condF rfl ?_
  refine W.skip ?_
  refine W.seq (W.region rfl ?_)
  refine WL.p h Val.mv ?_
  refine WL.p h (Val.ta2 rfl hT1) ?_
  refine WL.p h Val.mv ?_
  refine WL.p h (Val.ext rfl rfl) ?_
  refine WL.p h (Val.ext rfl rfl) ?_
  refine WL.p h Val.as ?_
  refine WL.p h Val.as ?_
  refine WL.nil ?_
  refine W.seq (W.region rfl ?_)
  refine WL.p h Val.mv ?_
  refine WL.p h (Val.ta2 rfl hT2) ?_
  refine WL.p h Val.mv ?_
  refine WL.p h (Val.ext rfl rfl) ?_
  refine WL.p h (Val.ext rfl rfl) ?_
  refine WL.p h Val.as ?_
  refine WL.p h Val.as ?_
  refine WL.nil ?_
  refine W.seq (W.seq (W.region rfl ?_))
  refine WL.p h Val.mv ?_
  refine WL.p h (Val.not rfl) ?_
  refine WL.p h Val.mv ?_
  cases ok1 with
  | false =>
    have k1 : t.atom.k ≠ 3 := fun e => by simpa using hk1.2 e
    have hno : opT 10 t u = ([], wType) := by
      rw [opT, if_neg (show ¬ ((10 : Int) = 3) by decide), if_neg (show ¬ ((10 : Int) = 4) by decide), if_neg (show ¬ ((10 : Int) = 9) by decide), if_pos rfl, addA]
      by_cases kne : t.atom.k ≠ u.atom.k
      · rw [if_pos kne]
      · obtain ⟨f4, f5, f6⟩ := hfall (Decidable.not_not.1 kne)
        rw [if_neg kne, if_neg k1, if_neg f4, if_neg f5, if_neg f6]
    refine WL.no rfl (WL.no rfl (?_))
    refine WL.p h (Val.pick rfl) ?_
    refine WL.nil ?_
    refine W.condT rfl ?_
    refine W.seq (W.region rfl ?_)
    refine WL.p h Val.as ?_
    refine WL.p h Val.as ?_
    refine WL.nil ?_
    refine W.ret ?_
    exact fin2 (v := .nilIface) (x := .string wType) rfl rfl rfl (PVA.no h.toExt (by exact hno) (by decide))
  | true =>
  have k1 : t.atom.k = 3 := hk1.1 rfl
  refine WL.p h Val.mv ?_
  refine WL.p h (Val.not rfl) ?_
  cases ok2 with
  | false =>
    have kne : t.atom.k ≠ u.atom.k := fun e => by simpa using hk2.2 (e ▸ k1)
    have hno : opT 10 t u = ([], wType) := by
      rw [opT, if_neg (show ¬ ((10 : Int) = 3) by decide), if_neg (show ¬ ((10 : Int) = 4) by decide), if_neg (show ¬ ((10 : Int) = 9) by decide), if_pos rfl, addA, if_pos kne]
    refine WL.p h (Val.pick rfl) ?_
    refine WL.nil ?_
    refine W.condT rfl ?_
    refine W.seq (W.region rfl ?_)
    refine WL.p h Val.as ?_
    refine WL.p h Val.as ?_
    refine WL.nil ?_
    refine W.ret ?_
    exact fin2 (v := .nilIface) (x := .string wType) rfl rfl rfl (PVA.no h.toExt (by exact hno) (by decide))
  | true =>
  have k2 : u.atom.k = 3 := hk2.1 rfl
  have kne : ¬ t.atom.k ≠ u.atom.k := fun e => e (by rw [k1, k2])
  have hx := hx rfl
  have hy := hy rfl
  subst hx hy
  have hxr := ha.vt.num
  have hyr := hb.vt.num
  have hN : opT 10 t u = (numR 10 t.atom.n u.atom.n).at := by
    rw [opT, if_neg (show ¬ ((10 : Int) = 3) by decide), if_neg (show ¬ ((10 : Int) = 4) by decide), if_neg (show ¬ ((10 : Int) = 9) by decide), if_pos rfl, addA, if_neg kne, if_pos k1]
  have hS : numR 10 t.atom.n u.atom.n = rng (t.atom.n + u.atom.n) := rfl
  refine WL.p h (Val.pick rfl) ?_
  refine WL.nil ?_
  refine W.condF rfl ?_
  refine W.skip ?_
  refine W.seq (W.region rfl ?_)
  refine WL.p h Val.as ?_
  refine WL.nil ?_
  refine W.seq (W.region rfl ?_)
  refine WL.p h Val.as ?_
  refine WL.nil ?_
  refine W.seq (W.seq (W.region rfl ?_))
  refine WL.p h Val.mv ?_
  refine WL.nil ?_
  refine W.cutT (fun R w => Hp w0 F F [] w ∧ ∃ z ok, R 41 = .int .i64 z ∧ R 42 = .bool ok ∧ (ok = true → (numR 10 t.atom.n u.atom.n).at = ([⟨3, z, ⟨#[]⟩, 0⟩], ⟨#[]⟩)) ∧ (ok = false → (numR 10 t.atom.n u.atom.n).at = ([], wRange))) ?_ ?_
  · refine W.block ?_
    refine W.seq (W.region rfl ?_)
    refine WL.p h (Val.eq (a := 10) (b := 10) rfl rfl) ?_
    refine WL.p h Val.as ?_
    refine WL.nil ?_
    refine W.condT rfl ?_
    refine W.region rfl ?_
    refine WL.p h Val.mv ?_
    refine WL.p h Val.mv ?_
    refine WL.call C94 (args := [.int .i64 t.atom.n, .int .i64 u.atom.n]) rfl ((add_calls' F _ h.sub t.atom.n u.atom.n hxr hyr).mono ?_)
    rintro e w' ⟨z, ok, rfl, hE, hok, hz⟩
    have h := h.call hE
    refine ⟨_, rfl, ?_⟩
    refine WL.p h Val.mv ?_
    refine WL.p h (Val.ext (v := .int .i64 z) rfl rfl) ?_
    refine WL.p h (Val.ext (v := .bool ok) rfl rfl) ?_
    refine WL.p h Val.as ?_
    refine WL.p h Val.as ?_
    refine WL.nil ?_
    exact ⟨h, z, ok, rfl, rfl, (rng_at hS hok hz).1, (rng_at hS hok hz).2⟩
  clear h
  rintro R w ⟨h, z, ok, h41, h42, hy, hn⟩
  refine W.seq (W.seq (W.region rfl ?_))
  refine WL.p h Val.mv ?_
  refine WL.p h (Val.not h42) ?_
  cases ok with
  | false =>
    refine WL.nil ?_
    refine W.condT rfl ?_
    refine W.seq (W.region rfl ?_)
    refine WL.p h Val.as ?_
    refine WL.p h Val.as ?_
    refine WL.nil ?_
    refine W.ret ?_
    exact fin2 (v := .nilIface) (x := .string wRange) rfl rfl rfl (PVA.no h.toExt (hN.trans (hn rfl)) (by decide))
  | true =>
    refine WL.nil ?_
    refine W.condF rfl ?_
    refine W.skip ?_
    refine W.seq (W.region rfl ?_)
    refine WL.p h Val.mv ?_
    refine WL.p h (Val.mkI (by kernel_rfl) h41) ?_
    refine WL.p h Val.as ?_
    refine WL.p h Val.as ?_
    refine WL.nil ?_
    refine W.ret ?_
    exact fin2 (v := .iface 2 (.int .i64 z)) (x := .string ⟨#[]⟩) rfl rfl rfl (PVA.int h.toExt (hN.trans (hy rfl)))
theorem op10_calls (F : Fz) (w0 : World) (hF : Sub F (hv w0)) {a b : Value} {t u : T} (ha : Arg F t a) (hb : Arg F u b) : Calls Try.prog 61 #[.int .i64 10, a, b] w0 (PVA F w0 (opT 10 t u)) := by
  by_cases k4 : t.atom.k = 4
  · exact op10t_calls F w0 hF ha hb k4
  by_cases k5 : t.atom.k = 5
  · exact op10l_calls F w0 hF ha hb k5
  by_cases k6 : t.atom.k = 6
  · by_cases u6 : u.atom.k = 6
    · exact op10y_calls F w0 hF ha hb k6 u6
    · exact op10x_calls F w0 hF ha hb k6 u6
  exact op10n_calls F w0 hF ha hb k4 k5 k6
end Go.Proofs.Ytmiihhbgfijcmaa.K


/- Op: the program's own, joined; and its values taken in and out. -/
namespace Go.Proofs.Ytmiihhbgfijcmaa.K
open Go Go.RowKit
set_option linter.unusedVariables false
set_option linter.unusedSimpArgs false
set_option maxRecDepth 20000
theorem C29 : CF Try.prog 29 := ⟨_, Try.func29, rfl, rfl⟩
theorem C61 : CF Try.prog 61 := ⟨_, Try.func61, rfl, rfl⟩
theorem op_calls (F : Fz) (w0 : World) (hF : Sub F (hv w0)) (m : Int) (hz : ∀ w, Sub F (hv w) → w.cell? ⟨0, 0, none⟩ = some (.int .i64 m)) (op : Int) {a b : Value} {t u : T} (ha : Arg F t a) (hb : Arg F u b) : Calls Try.prog 61 #[.int .i64 op, a, b] w0 (PVA F w0 (if op < 1 ∨ 14 < op then ([], wType) else opT op t u)) := by
  by_cases hop : op < 1 ∨ 14 < op
  · rw [if_pos hop]; exact opOut_calls F w0 hF op a b hop
  rw [if_neg hop]
  have : op = 1 ∨ op = 2 ∨ op = 3 ∨ op = 4 ∨ op = 5 ∨ op = 6 ∨ op = 7 ∨ op = 8 ∨ op = 9 ∨ op = 10 ∨ op = 11 ∨ op = 12 ∨ op = 13 ∨ op = 14 := by omega
  rcases this with rfl | rfl | rfl | rfl | rfl | rfl | rfl | rfl | rfl | rfl | rfl | rfl | rfl | rfl
  · exact op1_calls F w0 hF ha hb
  · exact op2_calls F w0 hF ha hb
  · exact op3_calls F w0 hF ha hb
  · exact op4_calls F w0 hF ha hb
  · exact op5_calls F w0 hF ha hb
  · exact op6_calls F w0 hF ha hb
  · exact op7_calls F w0 hF ha hb
  · exact op8_calls F w0 hF ha hb
  · exact op9_calls F w0 hF m hz ha hb
  · exact op10_calls F w0 hF ha hb
  · exact op11_calls F w0 hF ha hb
  · exact op12_calls F w0 hF ha hb
  · exact op13_calls F w0 hF ha hb
  · exact op14_calls F w0 hF ha hb
theorem PO.of {F : Fz} {w0 w : World} {l l' : List At × ByteArray} {e : Ending} (h : l' = l) (hp : PO F w0 l' e w) : PO F w0 l e w := h ▸ hp
theorem opP_n1 {op : Int} {es fs : List At} (h : treeP es = none) : ([], wType) = opP op es fs := by rw [opP, h]
theorem opP_n2 {op : Int} {es fs : List At} (h : treeP fs = none) : ([], wType) = opP op es fs := by
  rw [opP, h]
  cases treeP es <;> rfl
theorem opP_ss {op : Int} {es fs : List At} {t u : T} (h1 : treeP es = some t) (h2 : treeP fs = some u) : (if op < 1 ∨ 14 < op then ([], wType) else opT op t u) = opP op es fs := by rw [opP, h1, h2]
theorem unp_none {es : List At} (h : treeP es = none) : unpackP es = none := treeP_none h
set_option maxHeartbeats 4000000 in
theorem implOp_calls (F : Fz) (w0 : World) (hF : Sub F (hv w0)) (m : Int) (hz : ∀ w, Sub F (hv w) → w.cell? ⟨0, 0, none⟩ = some (.int .i64 m)) (op : Int) (va vb : Value) (es fs : List At) (hr : FRow F va es.length 4 (rowA es)) (hs : FRow F vb fs.length 4 (rowA fs)) (hvt : ∀ t, treeP es = some t → Vt t) (hvu : ∀ u, treeP fs = some u → Vt u) : Calls Try.prog 29 #[.int .i64 op, .agg #[va], .agg #[vb]] w0 (PO F w0 (opP op es fs)) := by
  refine calls 38 Try.func29 rfl rfl rfl ?_
  have h := Hp.start hF
  refine W.seq (W.region rfl ?_)
  refine WL.box h rfl (fun b4 w h => ?_)
  refine WL.box h rfl (fun b5 w h => ?_)
  refine WL.alloc h T42 (fun b6 w h => ?_)
  refine WL.p h Val.as ?_
  refine WL.nil ?_
  refine W.seq (W.region rfl ?_)
  refine WL.p h (Val.ldS 0 A42 T42 rfl rfl rfl) ?_
  refine WL.call C42 (args := [.agg #[va]]) rfl ((unpack_calls F w h.sub va es hr).mono ?_)
  rintro e w' ⟨F1, u1, ok1, rfl, hE1, hu1⟩
  have h := h.call hE1
  refine ⟨_, rfl, ?_⟩
  refine WL.p h Val.mv ?_
  refine WL.p h (Val.ext (v := u1) rfl rfl) ?_
  refine WL.p h (Val.ext (v := .bool ok1) rfl rfl) ?_
  refine WL.p h Val.as ?_
  refine WL.p h Val.as ?_
  refine WL.nil ?_
  refine W.seq (W.region rfl ?_)
  refine WL.p h (Val.ldS 1 A42 T42 rfl rfl rfl) ?_
  refine WL.call C42 (args := [.agg #[vb]]) rfl ((unpack_calls F1 _ h.sub vb fs (hs.mono hE1.ext)).mono ?_)
  rintro e w' ⟨F2, u2, ok2, rfl, hE2, hu2⟩
  have h := h.call hE2
  refine ⟨_, rfl, ?_⟩
  refine WL.p h Val.mv ?_
  refine WL.p h (Val.ext (v := u2) rfl rfl) ?_
  refine WL.p h (Val.ext (v := .bool ok2) rfl rfl) ?_
  refine WL.p h Val.as ?_
  refine WL.p h Val.as ?_
  refine WL.nil ?_
  refine W.seq (W.seq (W.region rfl ?_))
  refine WL.p h Val.mv ?_
  refine WL.p h (Val.not rfl) ?_
  refine WL.p h Val.mv ?_
  cases ht : treeP es with
  | none =>
    have hk := unp_none ht
    rw [hk] at hu1
    obtain rfl : ok1 = false := hu1
    refine WL.no rfl (WL.no rfl (?_))
    refine WL.p h (Val.pick rfl) ?_
    refine WL.nil ?_
    refine W.condT rfl ?_
    refine W.seq (W.region rfl ?_)
    refine WL.p h (Val.build0 B42e) ?_
    refine WL.stS 2 h rfl T42 rfl (vs := [.slice none 0 0]) rfl (one1 rfl) rfl rfl (fun w h => ?_)
    refine WL.p h Val.as ?_
    refine WL.nil ?_
    have h := (h.nilRow 79 4).weak (Sub.refl _) (hE1.ext.trans hE2.ext)
    refine W.ret ?_
    exact finBox2 (v := .string wType) h 2 rfl rfl rfl A42 T42 rfl rfl (PO.of (l' := ([], wType)) (opP_n1 ht) ⟨_, rfl, h.only 3 rfl⟩)
  | some t =>
  have hvt := hvt t ht
  obtain ⟨_, _, _, it, hit, hun⟩ := treeP_some ht
  rw [hun] at hu1
  obtain ⟨rfl, hrep1⟩ := hu1
  refine WL.p h Val.mv ?_
  refine WL.p h (Val.not rfl) ?_
  cases ht2 : treeP fs with
  | none =>
    have hk := unp_none ht2
    rw [hk] at hu2
    obtain rfl : ok2 = false := hu2
    refine WL.p h (Val.pick rfl) ?_
    refine WL.nil ?_
    refine W.condT rfl ?_
    refine W.seq (W.region rfl ?_)
    refine WL.p h (Val.build0 B42e) ?_
    refine WL.stS 2 h rfl T42 rfl (vs := [.slice none 0 0]) rfl (one1 rfl) rfl rfl (fun w h => ?_)
    refine WL.p h Val.as ?_
    refine WL.nil ?_
    have h := (h.nilRow 79 4).weak (Sub.refl _) (hE1.ext.trans hE2.ext)
    refine W.ret ?_
    exact finBox2 (v := .string wType) h 2 rfl rfl rfl A42 T42 rfl rfl (PO.of (l' := ([], wType)) (opP_n2 ht2) ⟨_, rfl, h.only 3 rfl⟩)
  | some u =>
  have hvu := hvu u ht2
  obtain ⟨_, _, _, iu, hiu, hun2⟩ := treeP_some ht2
  rw [hun2] at hu2
  obtain ⟨rfl, hrep2⟩ := hu2
  refine WL.p h (Val.pick rfl) ?_
  refine WL.nil ?_
  refine W.condF rfl ?_
  refine W.skip ?_
  have hs12 := hE1.ext.trans hE2.ext
  have ha : Arg F2 t u1 := ⟨hvt, it, hit, hrep1.mono hE2.ext⟩
  have hb : Arg F2 u u2 := ⟨hvu, iu, hiu, hrep2⟩
  refine W.seq (W.region rfl ?_)
  refine WL.p h Val.mv ?_
  refine WL.p h Val.mv ?_
  refine WL.p h Val.mv ?_
  refine WL.call C61 (args := [.int .i64 op, u1, u2]) rfl ((op_calls F2 _ h.sub m (fun w hw => hz w (hs12.trans hw)) op ha hb).mono ?_)
  rintro e w' ⟨F3, r, v, s, rfl, hE3, hrr, hl, hbd⟩
  have h := h.call hE3
  refine ⟨_, rfl, ?_⟩
  refine WL.p h (Val.ext (v := r) rfl rfl) ?_
  refine WL.p h (Val.ext (v := .string s) rfl rfl) ?_
  refine WL.call C51 (args := [r, .string s]) rfl ((outOf_calls F3 _ h.sub (v, s) r hrr hbd).mono ?_)
  rintro e w' ⟨s9, rfl, hp⟩
  have h := (h.take1 hp).weak (Sub.refl _) (hs12.trans hE3.ext)
  refine ⟨_, rfl, ?_⟩
  refine WL.p h (Val.ext (v := .agg #[s9]) rfl rfl) ?_
  refine WL.p h (Val.ext (v := .string (outA (v, s)).2) rfl rfl) ?_
  refine WL.stS 2 h rfl T42 rfl (vs := [s9]) rfl (one1 (h.own1 3 rfl)) rfl rfl (fun w h => ?_)
  refine WL.p h Val.as ?_
  refine WL.nil ?_
  refine W.ret ?_
  exact finBox2 (v := .string (outA (v, s)).2) h 2 rfl rfl rfl A42 T42 rfl rfl (PO.of (hl.trans (opP_ss ht ht2)) ⟨_, rfl, h.only 3 rfl⟩)
end Go.Proofs.Ytmiihhbgfijcmaa.K


