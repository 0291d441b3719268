/- The program's order of values, walked; the law FnExactOrder. -/
import Derived.Test.YtmiihhbgfijcmaaOs
import Derived.Test.YtmiihhbgfijcmaaKf
import Derived.Test.YtmiihhbgfijcmaaSh
namespace Go.Proofs.Ytmiihhbgfijcmaa.K
open Go Go.RowKit
set_option linter.unusedVariables false
set_option linter.unusedSimpArgs false
set_option maxRecDepth 20000
theorem C73 : CF Try.prog 73 := ⟨_, Try.func73, rfl, rfl⟩
theorem C74 : CF Try.prog 74 := ⟨_, Try.func74, rfl, rfl⟩
theorem C75 : CF Try.prog 75 := ⟨_, Try.func75, rfl, rfl⟩
theorem C76 : CF Try.prog 76 := ⟨_, Try.func76, rfl, rfl⟩
theorem C45 : CF Try.prog 45 := ⟨_, Try.func45, rfl, rfl⟩
theorem C21 : CF Try.prog 21 := ⟨_, Try.func21, rfl, rfl⟩
theorem Inner.inv1 {a : At} {ks : List T} {k : List It} {v : V} (h : Inner a ks k v) (e : a.k = 1) : ks = [] ∧ v = .none := by cases h <;> first | exact ⟨by assumption, rfl⟩ | (exfalso; omega)
theorem Inner.inv2 {a : At} {ks : List T} {k : List It} {v : V} (h : Inner a ks k v) (e : a.k = 2) : ks = [] ∧ (a.n = 0 ∨ a.n = 1) ∧ v = .bool (decide (a.n = 1)) := by cases h <;> first | exact ⟨by assumption, by assumption, rfl⟩ | (exfalso; omega)
theorem Inner.inv3 {a : At} {ks : List T} {k : List It} {v : V} (h : Inner a ks k v) (e : a.k = 3) : ks = [] ∧ v = .int a.n := by cases h <;> first | exact ⟨by assumption, rfl⟩ | (exfalso; omega)
theorem Inner.inv4 {a : At} {ks : List T} {k : List It} {v : V} (h : Inner a ks k v) (e : a.k = 4) : ks = [] ∧ a.t.size ≤ 1000 ∧ v = .text a.t := by cases h <;> first | exact ⟨by assumption, by assumption, rfl⟩ | (exfalso; omega)
theorem Inner.inv5 {a : At} {ks : List T} {k : List It} {v : V} (h : Inner a ks k v) (e : a.k = 5) : ks.length ≤ 200 ∧ v = .list (k.map It.v) := by cases h <;> first | exact ⟨by assumption, rfl⟩ | (exfalso; omega)
theorem Inner.inv6 {a : At} {ks : List T} {k : List It} {v : V} (h : Inner a ks k v) (e : a.k = 6) : ∃ ns vs q, ks.length = 2 * q ∧ q ≤ 200 ∧ ns.length = q ∧ vs.length = q ∧ turnV ns vs = k.map It.v ∧ RecOk ks ∧ v = .record ns vs := by
  cases h <;> first | exact ⟨_, _, _, by assumption, by assumption, by assumption, by assumption, by assumption, by assumption, rfl⟩ | (exfalso; omega)
theorem kindOf_calls (F : Fz) (w0 : World) (hF : Sub F (hv w0)) (v : V) (a : Value) (hr : Rep F v a) : Calls Try.prog 73 #[a] w0 (PI F w0 (kindV v)) := by
  refine calls 17 Try.func73 rfl rfl rfl ?_
  have h := Hp.start hF
  refine W.seq (W.region rfl ?_)
  refine WL.p h Val.as ?_
  refine WL.nil ?_
  refine W.seq (W.seq (W.region rfl ?_))
  refine WL.p h Val.mv ?_
  refine WL.nil ?_
  refine W.block ?_
  cases v with
  | none =>
    simp only [Rep] at hr
    subst hr
    refine W.seq (W.region rfl ?_)
    refine WL.p h (Val.eqNil (by kernel_rfl) rfl (.inl rfl)) ?_
    refine WL.nil ?_
    refine W.condT rfl ?_
    refine W.seq (W.region rfl ?_)
    refine WL.p h Val.as ?_
    refine WL.nil ?_
    refine W.ret ?_
    exact fin1 rfl rfl (PI.mk h.toExt)
  | bool b =>
    simp only [Rep] at hr
    subst hr
    refine W.seq (W.region rfl ?_)
    refine WL.p h (Val.eqNil (by kernel_rfl) rfl (.inr ⟨_, _, rfl⟩)) ?_
    refine WL.nil ?_
    refine W.condF rfl ?_
    refine W.seq (W.region rfl ?_)
    refine WL.p h (Val.taY N4 rfl) ?_
    refine WL.p h (Val.ext rfl rfl) ?_
    refine WL.p h (Val.ext rfl rfl) ?_
    refine WL.nil ?_
    refine W.condT rfl ?_
    refine W.seq (W.region rfl ?_)
    refine WL.p h Val.as ?_
    refine WL.nil ?_
    refine W.ret ?_
    exact fin1 rfl rfl (PI.mk h.toExt)
  | int n =>
    simp only [Rep] at hr
    subst hr
    refine W.seq (W.region rfl ?_)
    refine WL.p h (Val.eqNil (by kernel_rfl) rfl (.inr ⟨_, _, rfl⟩)) ?_
    refine WL.nil ?_
    refine W.condF rfl ?_
    refine W.seq (W.region rfl ?_)
    refine WL.p h (Val.taN N4 T4 rfl (by decide)) ?_
    refine WL.p h (Val.ext rfl rfl) ?_
    refine WL.p h (Val.ext rfl rfl) ?_
    refine WL.nil ?_
    refine W.condF rfl ?_
    refine W.seq (W.region rfl ?_)
    refine WL.p h (Val.taY N2 rfl) ?_
    refine WL.p h (Val.ext rfl rfl) ?_
    refine WL.p h (Val.ext rfl rfl) ?_
    refine WL.nil ?_
    refine W.condT rfl ?_
    refine W.seq (W.region rfl ?_)
    refine WL.p h Val.as ?_
    refine WL.nil ?_
    refine W.ret ?_
    exact fin1 rfl rfl (PI.mk h.toExt)
  | text s =>
    simp only [Rep] at hr
    subst hr
    refine W.seq (W.region rfl ?_)
    refine WL.p h (Val.eqNil (by kernel_rfl) rfl (.inr ⟨_, _, rfl⟩)) ?_
    refine WL.nil ?_
    refine W.condF rfl ?_
    refine W.seq (W.region rfl ?_)
    refine WL.p h (Val.taN N4 T4 rfl (by decide)) ?_
    refine WL.p h (Val.ext rfl rfl) ?_
    refine WL.p h (Val.ext rfl rfl) ?_
    refine WL.nil ?_
    refine W.condF rfl ?_
    refine W.seq (W.region rfl ?_)
    refine WL.p h (Val.taN N2 T2 rfl (by decide)) ?_
    refine WL.p h (Val.ext rfl rfl) ?_
    refine WL.p h (Val.ext rfl rfl) ?_
    refine WL.nil ?_
    refine W.condF rfl ?_
    refine W.seq (W.region rfl ?_)
    refine WL.p h (Val.taY N9 rfl) ?_
    refine WL.p h (Val.ext rfl rfl) ?_
    refine WL.p h (Val.ext rfl rfl) ?_
    refine WL.nil ?_
    refine W.condT rfl ?_
    refine W.seq (W.region rfl ?_)
    refine WL.p h Val.as ?_
    refine WL.nil ?_
    refine W.ret ?_
    exact fin1 rfl rfl (PI.mk h.toExt)
  | list l =>
    simp only [Rep] at hr
    obtain ⟨u, us, rfl, _⟩ := hr
    refine W.seq (W.region rfl ?_)
    refine WL.p h (Val.eqNil (by kernel_rfl) rfl (.inr ⟨_, _, rfl⟩)) ?_
    refine WL.nil ?_
    refine W.condF rfl ?_
    refine W.seq (W.region rfl ?_)
    refine WL.p h (Val.taN N4 T4 rfl (by decide)) ?_
    refine WL.p h (Val.ext rfl rfl) ?_
    refine WL.p h (Val.ext rfl rfl) ?_
    refine WL.nil ?_
    refine W.condF rfl ?_
    refine W.seq (W.region rfl ?_)
    refine WL.p h (Val.taN N2 T2 rfl (by decide)) ?_
    refine WL.p h (Val.ext rfl rfl) ?_
    refine WL.p h (Val.ext rfl rfl) ?_
    refine WL.nil ?_
    refine W.condF rfl ?_
    refine W.seq (W.region rfl ?_)
    refine WL.p h (Val.taN N9 T9 rfl (by decide)) ?_
    refine WL.p h (Val.ext rfl rfl) ?_
    refine WL.p h (Val.ext rfl rfl) ?_
    refine WL.nil ?_
    refine W.condF rfl ?_
    refine W.seq (W.region rfl ?_)
    refine WL.p h (Val.taY N110 rfl) ?_
    refine WL.p h (Val.ext rfl rfl) ?_
    refine WL.p h (Val.ext rfl rfl) ?_
    refine WL.nil ?_
    refine W.condT rfl ?_
    refine W.seq (W.region rfl ?_)
    refine WL.p h Val.as ?_
    refine WL.nil ?_
    refine W.ret ?_
    exact fin1 rfl rfl (PI.mk h.toExt)
  | record ns vs =>
    simp only [Rep] at hr
    obtain ⟨u, u', us, rfl, _⟩ := hr
    refine W.seq (W.region rfl ?_)
    refine WL.p h (Val.eqNil (by kernel_rfl) rfl (.inr ⟨_, _, rfl⟩)) ?_
    refine WL.nil ?_
    refine W.condF rfl ?_
    refine W.seq (W.region rfl ?_)
    refine WL.p h (Val.taN N4 T4 rfl (by decide)) ?_
    refine WL.p h (Val.ext rfl rfl) ?_
    refine WL.p h (Val.ext rfl rfl) ?_
    refine WL.nil ?_
    refine W.condF rfl ?_
    refine W.seq (W.region rfl ?_)
    refine WL.p h (Val.taN N2 T2 rfl (by decide)) ?_
    refine WL.p h (Val.ext rfl rfl) ?_
    refine WL.p h (Val.ext rfl rfl) ?_
    refine WL.nil ?_
    refine W.condF rfl ?_
    refine W.seq (W.region rfl ?_)
    refine WL.p h (Val.taN N9 T9 rfl (by decide)) ?_
    refine WL.p h (Val.ext rfl rfl) ?_
    refine WL.p h (Val.ext rfl rfl) ?_
    refine WL.nil ?_
    refine W.condF rfl ?_
    refine W.seq (W.region rfl ?_)
    refine WL.p h (Val.taN N110 T110 rfl (by decide)) ?_
    refine WL.p h (Val.ext rfl rfl) ?_
    refine WL.p h (Val.ext rfl rfl) ?_
    refine WL.nil ?_
    refine W.condF rfl ?_
    refine W.skip ?_
    refine W.seq (W.region rfl ?_)
    refine WL.p h Val.as ?_
    refine WL.nil ?_
    refine W.ret ?_
    exact fin1 rfl rfl (PI.mk h.toExt)

def tuI (w0 : World) (F : Fz) (na va : Value) (ns : List ByteArray) (vs : List V) (b1 : Nat) (m : Nat) (R : Regs) (w : World) : Prop :=
  ∃ (i : Nat) (lv : Value) (us' : List Value), m + i = ns.length ∧ Hp w0 F F [.box b1 [na, va] 112, .own lv 71 1 (2 * i) us'] w ∧ R 1 = .pointer (some ⟨b1, 0, none⟩) ∧ R 3 = lv ∧ R 7 = na ∧ R 8 = .int .i64 (ns.length : Int) ∧ R 9 = .int .i64 (i : Int) ∧
    Reps F (turnV (ns.take i) (vs.take i)) us'
theorem turn_calls (F : Fz) (w0 : World) (hF : Sub F (hv w0)) (na va : Value) (ns : List ByteArray) (vs : List V) (us : List Value) (hl : ns.length = vs.length) (hn : FRow F na ns.length 1 (ns.map .string)) (hv' : FRow F va vs.length 1 us) (hr : Reps F vs us) (hB : ns.length ≤ 1048576) :
    Calls Try.prog 76 #[.agg #[na, va]] w0 fun e w' => ∃ F' l us', e = .returned l ∧ Ext F w0 F' w' ∧ FRow F' l (2 * ns.length) 1 us' ∧ Reps F' (turnV ns vs) us' := by
  refine calls 26 Try.func76 rfl rfl rfl ?_
  have h := Hp.start hF
  refine W.seq (W.region rfl ?_)
  refine WL.box h rfl (fun b1 w h => ?_)
  refine WL.p h Val.as ?_
  refine WL.nil ?_
  refine W.seq (W.region rfl ?_)
  refine WL.p h Val.as ?_
  refine WL.nil ?_
  refine W.seq (W.seq (W.region rfl ?_))
  refine WL.p h (Val.fa O112_0 rfl) ?_
  refine WL.p h (Val.ld 0 A24 rfl rfl rfl) ?_
  refine WL.p h (Val.len Try.underlying24 rfl hn.val) ?_
  refine WL.p h Val.mv ?_
  refine WL.nil ?_
  refine W.block ?_
  refine W.loop (tuI w0 F na va ns vs b1) ns.length ?_ (fun m R w hI => ?_)
  · exact ⟨0, .slice none 0 0, [], by omega, h.nilRow 71 1, rfl, rfl, rfl, rfl, rfl, by simp [turnV, Reps]⟩
  clear h
  obtain ⟨i, lv, us', hm, h, h1, h3, h7, h8, h9, hreps⟩ := hI
  refine W.seq (W.region rfl ?_)
  refine WL.p h (Val.lt h9 h8) ?_
  refine WL.dec (fun c1 => ?_) (fun c1 => ?_)
  · have hlt : i < ns.length := by omega
    obtain ⟨s, hs⟩ : ∃ s, ns[i]? = some s := ⟨_, List.getElem?_eq_getElem hlt⟩
    obtain ⟨v, hv⟩ : ∃ s, vs[i]? = some s := ⟨_, List.getElem?_eq_getElem (by omega)⟩
    obtain ⟨u, hu, hru⟩ := hr.get hv
    refine WL.nil ?_
    refine W.seq ?_
    refine W.condT rfl ?_
    refine W.skip ?_
    refine W.seq (W.block ?_)
    refine W.seq (W.region rfl ?_)
    refine WL.p h Val.mv ?_
    refine WL.p h (Val.ix Try.underlying24 T9 h7 h9 (hn.slice (by omega)) hlt) ?_
    refine WL.p h (Val.ldR A9 hn rfl (u := .string s) (by rw [Nat.mul_one, List.getElem?_map, hs]; rfl)) ?_
    refine WL.p h Val.as ?_
    refine WL.p h Val.as ?_
    refine WL.nil ?_
    refine W.region rfl ?_
    refine WL.p h Val.mv ?_
    refine WL.p h Val.mv ?_
    refine WL.p h (Val.mkI (by kernel_rfl) rfl) ?_
    refine WL.p h (Val.fa O112_1 h1) ?_
    refine WL.p h (Val.ld 0 A109 rfl rfl rfl) ?_
    refine WL.p h Val.mv ?_
    refine WL.p h (Val.ix Try.underlying109 T71 rfl h9 (hv'.slice (by omega)) (by omega)) ?_
    refine WL.p h (Val.ldR A71 hv' rfl (u := u) (by rw [Nat.mul_one]; exact hu)) ?_
    refine WL.bs2 (u := .iface 9 (.string s)) (v := u) h Try.underlying110 T71 rfl rfl rfl hru.one (fun b9 w h => ?_)
    refine WL.app 1 h rfl Try.underlying110 T71 (by decide) h3 rfl (news := [.iface 9 (.string s), u]) rfl (box_news h (i := 2) rfl) (by intro x hx; simp at hx; rcases hx with rfl | rfl; exact rfl; exact hru.one) (by omega) (by omega) (fun lv' w h => ?_)
    refine WL.p h Val.as ?_
    refine WL.nil ?_
    refine W.region rfl ?_
    refine WL.p h (Val.addi (c := ((i + 1 : Nat) : Int)) h9 rfl (by omega)) ?_
    refine WL.p h Val.mv ?_
    refine WL.nil ?_
    refine ⟨m - 1, by omega, i + 1, lv', us' ++ [.iface 9 (.string s), u], by omega, (h.keep 2).cast rfl, h1, rfl, h7, h8, rfl, ?_⟩
    obtain ⟨hlt', e1⟩ := List.getElem?_eq_some_iff.1 hs
    obtain ⟨hlt2, e2⟩ := List.getElem?_eq_some_iff.1 hv
    rw [List.take_succ_eq_append_getElem hlt', List.take_succ_eq_append_getElem hlt2, e1, e2, turnV_app _ _ _ _ (by simp; omega)]
    have q1 := hreps.snoc (x := .text s) (u := .iface 9 (.string s)) rfl
    have q2 := q1.snoc hru
    simpa using q2
  · refine WL.nil ?_
    refine W.seq ?_
    refine W.condF rfl ?_
    refine W.exit ?_
    refine W.seq (W.region rfl ?_)
    refine WL.p h Val.mv ?_
    refine WL.p h Val.as ?_
    refine WL.nil ?_
    refine W.ret ?_
    obtain ⟨F', hsub, h, hrow⟩ := h.freezeRow 1 rfl
    have hi : i = ns.length := by omega
    rw [hi] at hrow hreps
    have e2 : vs.take ns.length = vs := by rw [hl, List.take_length]
    rw [List.take_length, e2] at hreps
    exact fin1 rfl h3 ⟨F', lv, us', rfl, h.toExt, hrow, Reps.mono hsub _ _ hreps⟩

def cfI (w0 : World) (F : Fz) (s1 s2 : Value) (ks ls : List T) (m : Nat) (R : Regs) (w : World) : Prop :=
  ∃ (i : Nat), m + i = ks.length ∧ i ≤ ls.length ∧ Hp w0 F F [] w ∧ R 0 = s1 ∧ R 1 = s2 ∧ R 2 = .func (.func 45) #[] #[] ∧ R 11 = s1 ∧ R 12 = .int .i64 (ks.length : Int) ∧ R 13 = .int .i64 (i : Int) ∧
    ∀ (j : Nat) x y, j < i → ks[j]? = some x → ls[j]? = some y → ordT x y = 0
theorem cmpFunc_calls (F : Fz) (w0 : World) (hF : Sub F (hv w0)) (s1 s2 : Value) (us vs : List Value) (ks ls : List T) (h1r : FRow F s1 ks.length 1 us) (h2r : FRow F s2 ls.length 1 vs)
    (hcall : ∀ (i : Nat) x y c d, ks[i]? = some x → ls[i]? = some y → us[i]? = some c → vs[i]? = some d → ∀ w, Sub F (hv w) → Calls Try.prog 45 #[c, d] w (PI F w (ordT x y))) :
    Calls Try.prog 75 #[s1, s2, .func (.func 45) #[] #[]] w0 (PI F w0 (ordTs ks ls)) := by
  refine calls 39 Try.func75 rfl rfl rfl ?_
  have h := Hp.start hF
  have hmax := h1r.max
  have hmax2 := h2r.max
  have hul : us.length = ks.length := by have := h1r.len; omega
  have hvl : vs.length = ls.length := by have := h2r.len; omega
  refine W.seq (W.region rfl ?_)
  refine WL.p h Val.as ?_
  refine WL.nil ?_
  refine W.seq (W.seq (W.region rfl ?_))
  refine WL.p h Val.mv ?_
  refine WL.p h (Val.len Try.underlying110 rfl h1r.val) ?_
  refine WL.p h Val.mv ?_
  refine WL.nil ?_
  refine W.block ?_
  refine W.loop (cfI w0 F s1 s2 ks ls) ks.length ?_ (fun m R w hI => ?_)
  · exact ⟨0, by omega, by omega, h, rfl, rfl, rfl, rfl, rfl, rfl, fun j x y hj => by omega⟩
  clear h
  obtain ⟨i, hm, hil, h, h0, h1, h2, h11, h12, h13, hz⟩ := hI
  refine W.seq (W.region rfl ?_)
  refine WL.p h (Val.lt h13 h12) ?_
  refine WL.dec (fun c1 => ?_) (fun c1 => ?_)
  · obtain ⟨x, hx⟩ : ∃ x, ks[i]? = some x := ⟨_, List.getElem?_eq_getElem (by omega)⟩
    obtain ⟨c, hc⟩ : ∃ x, us[i]? = some x := ⟨_, List.getElem?_eq_getElem (by omega)⟩
    refine WL.nil ?_
    refine W.seq ?_
    refine W.condT rfl ?_
    refine W.skip ?_
    refine W.seq (W.block ?_)
    refine W.seq (W.region rfl ?_)
    refine WL.p h Val.mv ?_
    refine WL.p h (Val.ix Try.underlying110 T71 h11 h13 (h1r.slice (by omega)) (by omega)) ?_
    refine WL.p h (Val.ldR A71 h1r rfl (u := c) (by rw [Nat.mul_one]; exact hc)) ?_
    refine WL.p h Val.as ?_
    refine WL.p h Val.as ?_
    refine WL.nil ?_
    refine W.seq (W.seq (W.region rfl ?_))
    refine WL.p h Val.mv ?_
    refine WL.p h Val.mv ?_
    refine WL.p h (Val.len Try.underlying110 h1 h2r.val) ?_
    refine WL.p h (Val.ge h13 rfl) ?_
    refine WL.dec (fun c2 => ?_) (fun c2 => ?_)
    · refine WL.nil ?_
      refine W.condT rfl ?_
      refine W.seq (W.region rfl ?_)
      refine WL.p h Val.as ?_
      refine WL.nil ?_
      refine W.ret ?_
      refine fin1 (v := .int .i64 1) rfl rfl (PI.of h.toExt ?_)
      rw [ordTs_end ks ls (fun j x y hx hy => hz j x y (by have := (List.getElem?_eq_some_iff.1 hy).1; omega) hx hy), if_neg (by omega), if_neg (by omega)]
    refine WL.nil ?_
    refine W.condF rfl ?_
    refine W.skip ?_
    obtain ⟨y, hy⟩ : ∃ y, ls[i]? = some y := ⟨_, List.getElem?_eq_getElem (by omega)⟩
    obtain ⟨d, hd⟩ : ∃ y, vs[i]? = some y := ⟨_, List.getElem?_eq_getElem (by omega)⟩
    refine W.seq (W.region rfl ?_)
    refine WL.p h Val.mv ?_
    refine WL.p h Val.mv ?_
    refine WL.p h (Val.ix Try.underlying110 T71 h1 h13 (h2r.slice (by omega)) (by omega)) ?_
    refine WL.p h (Val.ldR A71 h2r rfl (u := d) (by rw [Nat.mul_one]; exact hd)) ?_
    refine WL.p h Val.as ?_
    refine WL.nil ?_
    refine W.seq (W.region rfl ?_)
    refine WL.p h Val.mv ?_
    refine WL.p h Val.mv ?_
    refine WL.p h Val.mv ?_
    refine WL.callV C45 h2 (args := [c, d]) rfl ((hcall i x y c d hx hy hc hd w h.sub).mono ?_)
    rintro e w' ⟨rfl, hE⟩
    have h := h.call hE
    refine ⟨_, rfl, ?_⟩
    refine WL.p h Val.as ?_
    refine WL.nil ?_
    refine W.seq (W.region rfl ?_)
    refine WL.p h Val.mv ?_
    refine WL.p h (Val.ne (a := ordT x y) rfl rfl) ?_
    refine WL.dec (fun c3 => ?_) (fun c3 => ?_)
    · refine WL.nil ?_
      refine W.condT rfl ?_
      refine W.seq (W.region rfl ?_)
      refine WL.p h Val.mv ?_
      refine WL.p h Val.as ?_
      refine WL.nil ?_
      refine W.ret ?_
      exact fin1 (v := .int .i64 (ordT x y)) rfl rfl (PI.of h.toExt (ordTs_hit ks ls i x y hx hy hz c3).symm)
    refine WL.nil ?_
    refine W.condF rfl ?_
    refine W.skip ?_
    refine W.region rfl ?_
    refine WL.p h (Val.addi (c := ((i + 1 : Nat) : Int)) h13 rfl (by omega)) ?_
    refine WL.p h Val.mv ?_
    refine WL.nil ?_
    refine ⟨m - 1, by omega, i + 1, by omega, by omega, h, h0, h1, h2, h11, h12, rfl, fun j x' y' hj hx' hy' => ?_⟩
    by_cases hji : j = i
    · rw [hji] at hx' hy'
      rw [hx] at hx'
      rw [hy] at hy'
      cases hx'
      cases hy'
      exact Decidable.not_not.1 c3
    · exact hz j x' y' (by omega) hx' hy'
  · refine WL.nil ?_
    refine W.seq ?_
    refine W.condF rfl ?_
    refine W.exit ?_
    have hend := ordTs_end ks ls (fun j x y hx hy => hz j x y (by have := (List.getElem?_eq_some_iff.1 hx).1; omega) hx hy)
    refine W.seq (W.seq (W.region rfl ?_))
    refine WL.p h Val.mv ?_
    refine WL.p h (Val.len Try.underlying110 h0 h1r.val) ?_
    refine WL.p h Val.mv ?_
    refine WL.p h (Val.len Try.underlying110 h1 h2r.val) ?_
    refine WL.p h (Val.lt rfl rfl) ?_
    refine WL.dec (fun c2 => ?_) (fun c2 => ?_)
    · refine WL.nil ?_
      refine W.condT rfl ?_
      refine W.seq (W.region rfl ?_)
      refine WL.p h Val.as ?_
      refine WL.nil ?_
      refine W.ret ?_
      refine fin1 (v := .int .i64 (-1)) rfl rfl (PI.of h.toExt ?_)
      rw [hend, if_neg (by omega), if_pos (by omega)]
    · refine WL.nil ?_
      refine W.condF rfl ?_
      refine W.skip ?_
      refine W.seq (W.region rfl ?_)
      refine WL.p h Val.as ?_
      refine WL.nil ?_
      refine W.ret ?_
      refine fin1 (v := .int .i64 0) rfl rfl (PI.of h.toExt ?_)
      rw [hend, if_pos (by omega)]

theorem kids_get {ks : List T} {k : List It} (he : evalTs ks = some k) {F : Fz} {us : List Value} (hr : Reps F (k.map It.v) us) {i : Nat} {t : T} {c : Value} (ht : ks[i]? = some t) (hc : us[i]? = some c) : ∃ it, evalT t = some it ∧ Rep F it.v c := by
  obtain ⟨x, hx, hex⟩ := evalTs_get he i t ht
  obtain ⟨u, hu, hru⟩ := hr.get (i := i) (x := x.v) (by rw [List.getElem?_map, hx]; rfl)
  rw [hc] at hu
  cases hu
  exact ⟨x, hex, hru⟩
set_option maxHeartbeats 2000000 in
theorem order_calls : ∀ (n : Nat) (F : Fz) (w0 : World) (hF : Sub F (hv w0)) (t u : T) (it iu : It) (a b : Value) (ht : t.Wf) (hu : u.Wf) (het : evalT t = some it) (heu : evalT u = some iu) (hra : Rep F it.v a) (hrb : Rep F iu.v b) (hn : t.enc.length = n), Calls Try.prog 45 #[a, b] w0 (PI F w0 (ordT t u)) := by
  intro n
  induction n using Nat.strongRecOn with
  | ind n ih =>
    intro F w0 hF t u it iu a b ht hu het heu hra hrb hn
    refine calls 72 Try.func45 rfl rfl rfl ?_
    have h := Hp.start hF
    obtain ⟨x, ks⟩ := t
    obtain ⟨y, ls⟩ := u
    obtain ⟨k, hk, hin⟩ := evalT_inner ht het
    obtain ⟨l, hl, hin2⟩ := evalT_inner hu heu
    have hka := hin.kind
    have hkb := hin2.kind
    have hkw : ∀ k ∈ ks, T.Wf k := by cases ht; assumption
    have hlw : ∀ k ∈ ls, T.Wf k := by cases hu; assumption
    have hle : (T.node x ks).enc.length = (T.encs ks).length + 1 := by rw [T.enc]; simp
    have hel : ∀ (F1 : Fz) (hs : Sub F F1) (us vs : List Value), Reps F1 (k.map It.v) us → Reps F1 (l.map It.v) vs → ∀ (i : Nat) x' y' c d, ks[i]? = some x' → ls[i]? = some y' → us[i]? = some c → vs[i]? = some d → ∀ w, Sub F1 (hv w) → Calls Try.prog 45 #[c, d] w (PI F1 w (ordT x' y')) := fun F1 hs us vs h1 h2 i x' y' c d hx hy hc hd w hw => by
      obtain ⟨i1, e1, r1⟩ := kids_get hk h1 hx hc
      obtain ⟨i2, e2, r2⟩ := kids_get hl h2 hy hd
      have := enc_le ks hx
      exact ih x'.enc.length (by omega) F1 w hw x' y' i1 i2 c d (hkw _ (List.mem_of_getElem? hx)) (hlw _ (List.mem_of_getElem? hy)) e1 e2 r1 r2 rfl
    refine W.seq (W.region rfl ?_)
    refine WL.p h Val.as ?_
    refine WL.nil ?_
    refine W.seq (W.seq (W.region rfl ?_))
    refine WL.p h Val.mv ?_
    refine WL.call C73 (args := [a]) rfl ((kindOf_calls F _ h.sub _ a hra).mono ?_)
    rintro e w' ⟨rfl, hE⟩
    have h := h.call hE
    refine ⟨_, rfl, ?_⟩
    refine WL.p h Val.mv ?_
    refine WL.call C73 (args := [b]) rfl ((kindOf_calls F _ h.sub _ b hrb).mono ?_)
    rintro e w' ⟨rfl, hE⟩
    have h := h.call hE
    refine ⟨_, rfl, ?_⟩
    refine WL.p h Val.as ?_
    refine WL.p h Val.as ?_
    refine WL.nil ?_
    rw [hka, hkb]
    refine W.seq (W.region rfl ?_)
    refine WL.p h Val.mv ?_
    refine WL.p h Val.mv ?_
    refine WL.p h (Val.ne (a := x.k) (b := y.k) rfl rfl) ?_
    refine WL.dec (fun c1 => ?_) (fun c1 => ?_)
    · refine WL.nil ?_
      refine W.condT rfl ?_
      refine W.seq (W.seq (W.region rfl ?_))
      refine WL.p h Val.mv ?_
      refine WL.p h Val.mv ?_
      refine WL.p h (Val.lt (a := x.k) (b := y.k) rfl rfl) ?_
      refine WL.dec (fun c2 => ?_) (fun c2 => ?_)
      · refine WL.nil ?_
        refine W.condT rfl ?_
        refine W.seq (W.region rfl ?_)
        refine WL.p h Val.as ?_
        refine WL.nil ?_
        refine W.ret ?_
        refine fin1 (v := .int .i64 (-1)) rfl rfl (PI.of h.toExt ?_)
        rw [ordT, if_pos (by simpa [T.atom] using c1), if_pos (by simpa [T.atom] using c2)]
      · refine WL.nil ?_
        refine W.condF rfl ?_
        refine W.skip ?_
        refine W.seq (W.region rfl ?_)
        refine WL.p h Val.as ?_
        refine WL.nil ?_
        refine W.ret ?_
        refine fin1 (v := .int .i64 1) rfl rfl (PI.of h.toExt ?_)
        rw [ordT, if_pos (by simpa [T.atom] using c1), if_neg (by simpa [T.atom] using c2)]
    refine WL.nil ?_
    refine W.condF rfl ?_
    refine W.skip ?_
    have hkk : x.k = y.k := Decidable.not_not.1 c1
    have hne : ¬ x.k ≠ (T.node y ls).atom.k := by simpa [T.atom] using hkk
    refine W.seq (W.seq (W.region rfl ?_))
    refine WL.p h Val.mv ?_
    refine WL.nil ?_
    refine W.block ?_
    generalize it.v = V1 at hin hra
    generalize iu.v = V2 at hin2 hrb
    cases hin with
    | none h1 hk0 =>
      simp only [Rep] at hra
      subst hra
      refine W.seq (W.region rfl ?_)
      refine WL.p h (Val.ta0 N4 T4 rfl) ?_
      refine WL.p h (Val.ext rfl rfl) ?_
      refine WL.p h (Val.ext rfl rfl) ?_
      refine WL.nil ?_
      refine W.condF rfl ?_
      refine W.seq (W.region rfl ?_)
      refine WL.p h (Val.ta0 N2 T2 rfl) ?_
      refine WL.p h (Val.ext rfl rfl) ?_
      refine WL.p h (Val.ext rfl rfl) ?_
      refine WL.nil ?_
      refine W.condF rfl ?_
      refine W.seq (W.region rfl ?_)
      refine WL.p h (Val.ta0 N9 T9 rfl) ?_
      refine WL.p h (Val.ext rfl rfl) ?_
      refine WL.p h (Val.ext rfl rfl) ?_
      refine WL.nil ?_
      refine W.condF rfl ?_
      refine W.seq (W.region rfl ?_)
      refine WL.p h (Val.ta0 N110 T110 rfl) ?_
      refine WL.p h (Val.ext rfl rfl) ?_
      refine WL.p h (Val.ext rfl rfl) ?_
      refine WL.nil ?_
      refine W.condF rfl ?_
      refine W.seq (W.region rfl ?_)
      refine WL.p h (Val.ta0 N112 T112 rfl) ?_
      refine WL.p h (Val.ext rfl rfl) ?_
      refine WL.p h (Val.ext rfl rfl) ?_
      refine WL.nil ?_
      refine W.condF rfl ?_
      refine W.skip ?_
      refine W.seq (W.region rfl ?_)
      refine WL.p h Val.as ?_
      refine WL.nil ?_
      refine W.ret ?_
      refine fin1 (v := .int .i64 0) rfl rfl (PI.of h.toExt ?_)
      obtain ⟨hl0, rfl⟩ := hin2.inv1 (by omega)
      rw [ordT, if_neg hne, if_neg (by omega), if_neg (by omega), hk0]
      simp only [T.kids, hl0]
      rfl
    | bool h1 hk0 hb =>
      simp only [Rep] at hra
      subst hra
      obtain ⟨hl0, hb2, rfl⟩ := hin2.inv2 (by omega)
      simp only [Rep] at hrb
      subst hrb
      have hord : ordT (.node x ks) (.node y ls) = cmpI x.n y.n := by rw [ordT, if_neg hne, if_pos (by omega)]; rfl
      rw [hord]
      refine W.seq (W.region rfl ?_)
      refine WL.p h (Val.taY N4 rfl) ?_
      refine WL.p h (Val.ext rfl rfl) ?_
      refine WL.p h (Val.ext rfl rfl) ?_
      refine WL.nil ?_
      refine W.condT rfl ?_
      refine W.seq (W.region rfl ?_)
      refine WL.p h Val.as ?_
      refine WL.nil ?_
      refine W.seq (W.region rfl ?_)
      refine WL.p h Val.mv ?_
      refine WL.p h (Val.ta1 N4 rfl) ?_
      refine WL.p h Val.as ?_
      refine WL.nil ?_
      refine W.seq (W.block ?_)
      refine W.seq (W.region rfl ?_)
      refine WL.p h Val.mv ?_
      refine WL.p h Val.mv ?_
      refine WL.p h (Val.boolEq (a := decide (x.n = 1)) (b := decide (y.n = 1)) Try.underlying4 rfl rfl) ?_
      refine WL.p h Val.as ?_
      refine WL.nil ?_
      by_cases heq : x.n = y.n
      · refine W.condT (show Value.bool (decide (x.n = 1) == decide (y.n = 1)) = _ by simp [heq]) ?_
        refine W.seq (W.region rfl ?_)
        refine WL.p h Val.as ?_
        refine WL.nil ?_
        refine W.ret ?_
        exact fin1 (v := .int .i64 0) rfl rfl (PI.of h.toExt (by rw [cmpI, heq]; simp))
      · refine W.condF (show Value.bool (decide (x.n = 1) == decide (y.n = 1)) = _ by rcases hb with hb | hb <;> rcases hb2 with hb2 | hb2 <;> simp [hb, hb2] at heq ⊢) ?_
        refine W.seq (W.region rfl ?_)
        refine WL.p h Val.mv ?_
        refine WL.p h Val.as ?_
        refine WL.nil ?_
        by_cases hy1 : y.n = 1
        · refine W.condT (show Value.bool (decide (y.n = 1)) = _ by simp [hy1]) ?_
          refine W.seq (W.region rfl ?_)
          refine WL.p h Val.as ?_
          refine WL.nil ?_
          refine W.ret ?_
          exact fin1 (v := .int .i64 (-1)) rfl rfl (PI.of h.toExt (by rw [cmpI, if_pos (by omega)]))
        · refine W.condF (show Value.bool (decide (y.n = 1)) = _ by simp [hy1]) ?_
          refine W.skip ?_
          refine W.seq (W.region rfl ?_)
          refine WL.p h Val.as ?_
          refine WL.nil ?_
          refine W.ret ?_
          exact fin1 (v := .int .i64 1) rfl rfl (PI.of h.toExt (by rw [cmpI, if_neg (by omega), if_neg heq]))
    | int h1 hk0 =>
      simp only [Rep] at hra
      subst hra
      obtain ⟨hl0, rfl⟩ := hin2.inv3 (by omega)
      simp only [Rep] at hrb
      subst hrb
      have hord : ordT (.node x ks) (.node y ls) = cmpI x.n y.n := by rw [ordT, if_neg hne, if_pos (by omega)]; rfl
      rw [hord]
      refine W.seq (W.region rfl ?_)
      refine WL.p h (Val.taN N4 T4 rfl (by decide)) ?_
      refine WL.p h (Val.ext rfl rfl) ?_
      refine WL.p h (Val.ext rfl rfl) ?_
      refine WL.nil ?_
      refine W.condF rfl ?_
      refine W.seq (W.region rfl ?_)
      refine WL.p h (Val.taY N2 rfl) ?_
      refine WL.p h (Val.ext rfl rfl) ?_
      refine WL.p h (Val.ext rfl rfl) ?_
      refine WL.nil ?_
      refine W.condT rfl ?_
      refine W.seq (W.region rfl ?_)
      refine WL.p h Val.as ?_
      refine WL.nil ?_
      refine W.seq (W.region rfl ?_)
      refine WL.p h Val.mv ?_
      refine WL.p h (Val.ta1 N2 rfl) ?_
      refine WL.p h Val.as ?_
      refine WL.nil ?_
      refine W.seq (W.block ?_)
      refine W.seq (W.region rfl ?_)
      refine WL.p h Val.mv ?_
      refine WL.p h Val.mv ?_
      refine WL.p h (Val.lt (a := x.n) (b := y.n) rfl rfl) ?_
      refine WL.dec (fun c2 => ?_) (fun c2 => ?_)
      · refine WL.p h Val.as ?_
        refine WL.nil ?_
        refine W.condT rfl ?_
        refine W.seq (W.region rfl ?_)
        refine WL.p h Val.as ?_
        refine WL.nil ?_
        refine W.ret ?_
        exact fin1 (v := .int .i64 (-1)) rfl rfl (PI.of h.toExt (by rw [cmpI, if_pos c2]))
      refine WL.p h Val.as ?_
      refine WL.nil ?_
      refine W.condF rfl ?_
      refine W.seq (W.region rfl ?_)
      refine WL.p h Val.mv ?_
      refine WL.p h Val.mv ?_
      refine WL.p h (Val.gt (a := x.n) (b := y.n) rfl rfl) ?_
      refine WL.dec (fun c3 => ?_) (fun c3 => ?_)
      · refine WL.p h Val.as ?_
        refine WL.nil ?_
        refine W.condT rfl ?_
        refine W.seq (W.region rfl ?_)
        refine WL.p h Val.as ?_
        refine WL.nil ?_
        refine W.ret ?_
        exact fin1 (v := .int .i64 1) rfl rfl (PI.of h.toExt (by rw [cmpI, if_neg c2, if_neg (by omega)]))
      refine WL.p h Val.as ?_
      refine WL.nil ?_
      refine W.condF rfl ?_
      refine W.skip ?_
      refine W.seq (W.region rfl ?_)
      refine WL.p h Val.as ?_
      refine WL.nil ?_
      refine W.ret ?_
      exact fin1 (v := .int .i64 0) rfl rfl (PI.of h.toExt (by rw [cmpI, if_neg c2, if_pos (by omega)]))
    | text h1 hk0 hs =>
      simp only [Rep] at hra
      subst hra
      obtain ⟨hl0, hs2, rfl⟩ := hin2.inv4 (by omega)
      simp only [Rep] at hrb
      subst hrb
      have hord : ordT (.node x ks) (.node y ls) = Lib.compareBytes x.t.data.toList y.t.data.toList := by rw [ordT, if_neg hne, if_neg (by omega), if_pos h1]; rfl
      rw [hord]
      refine W.seq (W.region rfl ?_)
      refine WL.p h (Val.taN N4 T4 rfl (by decide)) ?_
      refine WL.p h (Val.ext rfl rfl) ?_
      refine WL.p h (Val.ext rfl rfl) ?_
      refine WL.nil ?_
      refine W.condF rfl ?_
      refine W.seq (W.region rfl ?_)
      refine WL.p h (Val.taN N2 T2 rfl (by decide)) ?_
      refine WL.p h (Val.ext rfl rfl) ?_
      refine WL.p h (Val.ext rfl rfl) ?_
      refine WL.nil ?_
      refine W.condF rfl ?_
      refine W.seq (W.region rfl ?_)
      refine WL.p h (Val.taY N9 rfl) ?_
      refine WL.p h (Val.ext rfl rfl) ?_
      refine WL.p h (Val.ext rfl rfl) ?_
      refine WL.nil ?_
      refine W.condT rfl ?_
      refine W.seq (W.region rfl ?_)
      refine WL.p h Val.as ?_
      refine WL.nil ?_
      refine W.seq (W.region rfl ?_)
      refine WL.p h Val.mv ?_
      refine WL.p h Val.mv ?_
      refine WL.p h (Val.ta1 N9 rfl) ?_
      refine WL.call C74 (args := [.string x.t, .string y.t]) rfl ((Sh.Try.strings_Compare x.t y.t _).mono ?_)
      rintro e w' ⟨rfl, rfl⟩
      refine ⟨_, rfl, ?_⟩
      refine WL.p h Val.as ?_
      refine WL.nil ?_
      refine W.ret ?_
      exact fin1 rfl rfl (PI.mk h.toExt)
    | list h1 hl1 =>
      simp only [Rep] at hra
      obtain ⟨ua, us, rfl, hrowa, hrepa⟩ := hra
      obtain ⟨hl2, rfl⟩ := hin2.inv5 (by omega)
      simp only [Rep] at hrb
      obtain ⟨ub, vs, rfl, hrowb, hrepb⟩ := hrb
      have hord : ordT (.node x ks) (.node y ls) = ordTs ks ls := by rw [ordT, if_neg hne, if_neg (by omega), if_neg (by omega)]; rfl
      rw [hord]
      rw [List.length_map, evalTs_len hk] at hrowa
      rw [List.length_map, evalTs_len hl] at hrowb
      refine W.seq (W.region rfl ?_)
      refine WL.p h (Val.taN N4 T4 rfl (by decide)) ?_
      refine WL.p h (Val.ext rfl rfl) ?_
      refine WL.p h (Val.ext rfl rfl) ?_
      refine WL.nil ?_
      refine W.condF rfl ?_
      refine W.seq (W.region rfl ?_)
      refine WL.p h (Val.taN N2 T2 rfl (by decide)) ?_
      refine WL.p h (Val.ext rfl rfl) ?_
      refine WL.p h (Val.ext rfl rfl) ?_
      refine WL.nil ?_
      refine W.condF rfl ?_
      refine W.seq (W.region rfl ?_)
      refine WL.p h (Val.taN N9 T9 rfl (by decide)) ?_
      refine WL.p h (Val.ext rfl rfl) ?_
      refine WL.p h (Val.ext rfl rfl) ?_
      refine WL.nil ?_
      refine W.condF rfl ?_
      refine W.seq (W.region rfl ?_)
      refine WL.p h (Val.taY N110 rfl) ?_
      refine WL.p h (Val.ext rfl rfl) ?_
      refine WL.p h (Val.ext rfl rfl) ?_
      refine WL.nil ?_
      refine W.condT rfl ?_
      refine W.seq (W.region rfl ?_)
      refine WL.p h Val.as ?_
      refine WL.nil ?_
      refine W.seq (W.region rfl ?_)
      refine WL.p h Val.mv ?_
      refine WL.p h Val.mv ?_
      refine WL.p h (Val.ta1 N110 rfl) ?_
      refine WL.call C75 (args := [ua, ub, .func (.func 45) #[] #[]]) rfl ((cmpFunc_calls F _ h.sub ua ub us vs ks ls hrowa hrowb (hel F (Sub.refl _) us vs hrepa hrepb)).mono ?_)
      rintro e w' ⟨rfl, hE⟩
      have h := h.call hE
      refine ⟨_, rfl, ?_⟩
      refine WL.p h Val.as ?_
      refine WL.nil ?_
      refine W.ret ?_
      exact fin1 rfl rfl (PI.mk h.toExt)
    | record h1 ns vs q hlq hq hn1 hv1 hturn hro =>
      simp only [Rep] at hra
      obtain ⟨na, va, us, rfl, hnv, hrown, hrowv, hrepv⟩ := hra
      obtain ⟨ns', vs', q', hl2, hq', hn2, hv2, hturn2, hro2, rfl⟩ := hin2.inv6 (by omega)
      simp only [Rep] at hrb
      obtain ⟨nb, vb, us', rfl, hnv', hrown', hrowv', hrepv'⟩ := hrb
      have hord : ordT (.node x ks) (.node y ls) = ordTs ks ls := by rw [ordT, if_neg hne, if_neg (by omega), if_neg (by omega)]; rfl
      rw [hord]
      refine W.seq (W.region rfl ?_)
      refine WL.p h (Val.taN N4 T4 rfl (by decide)) ?_
      refine WL.p h (Val.ext rfl rfl) ?_
      refine WL.p h (Val.ext rfl rfl) ?_
      refine WL.nil ?_
      refine W.condF rfl ?_
      refine W.seq (W.region rfl ?_)
      refine WL.p h (Val.taN N2 T2 rfl (by decide)) ?_
      refine WL.p h (Val.ext rfl rfl) ?_
      refine WL.p h (Val.ext rfl rfl) ?_
      refine WL.nil ?_
      refine W.condF rfl ?_
      refine W.seq (W.region rfl ?_)
      refine WL.p h (Val.taN N9 T9 rfl (by decide)) ?_
      refine WL.p h (Val.ext rfl rfl) ?_
      refine WL.p h (Val.ext rfl rfl) ?_
      refine WL.nil ?_
      refine W.condF rfl ?_
      refine W.seq (W.region rfl ?_)
      refine WL.p h (Val.taN N110 T110 rfl (by decide)) ?_
      refine WL.p h (Val.ext rfl rfl) ?_
      refine WL.p h (Val.ext rfl rfl) ?_
      refine WL.nil ?_
      refine W.condF rfl ?_
      refine W.seq (W.region rfl ?_)
      refine WL.p h (Val.taY N112 rfl) ?_
      refine WL.p h (Val.ext rfl rfl) ?_
      refine WL.p h (Val.ext rfl rfl) ?_
      refine WL.nil ?_
      refine W.condT rfl ?_
      refine W.seq (W.region rfl ?_)
      refine WL.alloc h T112 (fun b13 w h => ?_)
      refine WL.stS 0 h rfl T112 rfl (vs := [na, va]) rfl (by obtain ⟨A, c, rfl, _⟩ := hrown.val; obtain ⟨A', c', rfl, _⟩ := hrowv.val; simp [Value.oneCell']) rfl rfl (fun w h => ?_)
      refine WL.nil ?_
      refine W.seq (W.draw (fun w => Hp w0 F F [.box b13 [na, va] 112] w) [] 7 (by kernel_rfl) rfl rfl ?_)
      have hS := h.drewN 1
      refine WD.take 0 rfl (by kernel_rfl) (fun _ _ _ h => fin_panic h) hS (Val.ldS 0 A112 T112 rfl rfl rfl) ?_
      refine WD.take 2 rfl (by kernel_rfl) (fun _ _ _ h => fin_panic h) hS Val.mv ?_
      refine WD.take 3 rfl (by kernel_rfl) (fun _ _ _ h => fin_panic h) hS (Val.ta1 N112 rfl) ?_
      refine WD.one 1 rfl (by kernel_rfl) ?_
      refine WL.call C76 (args := [.agg #[na, va]]) rfl ((turn_calls F _ hS.sub na va ns vs us hnv hrown hrowv hrepv (by omega)).mono ?_)
      rintro e w' ⟨F1, l1, us1, rfl, hE, hr1, hp1⟩
      have h := hS.call hE
      have hS := h.weak hS.ext hE.ext
      refine ⟨_, rfl, ?_⟩
      refine WL.nil ?_
      refine ⟨hS, ?_⟩
      refine WD.one 4 rfl (by kernel_rfl) ?_
      refine WL.call C76 (args := [.agg #[nb, vb]]) rfl ((turn_calls F1 _ h.sub nb vb ns' vs' us' hnv' (hrown'.mono hE.ext) (hrowv'.mono hE.ext) (Reps.mono hE.ext _ _ hrepv') (by omega)).mono ?_)
      rintro e w' ⟨F2, l2, us2, rfl, hE2, hr2, hp2⟩
      have h := h.call hE2
      have hS := h.weak hS.ext (hE.ext.trans hE2.ext)
      refine ⟨_, rfl, ?_⟩
      refine WL.nil ?_
      refine ⟨hS, ?_⟩
      have hr1 := hr1.mono hE2.ext
      have hp1 := Reps.mono hE2.ext _ _ hp1
      rw [show 2 * ns.length = ks.length by omega] at hr1
      rw [show 2 * ns'.length = ls.length by omega] at hr2
      rw [hturn] at hp1
      rw [hturn2] at hp2
      refine WD.one 5 rfl (by kernel_rfl) ?_
      refine WL.call C75 (args := [l1, l2, .func (.func 45) #[] #[]]) rfl ((cmpFunc_calls F2 _ h.sub l1 l2 us1 us2 ks ls hr1 hr2 (hel F2 (hE.ext.trans hE2.ext) us1 us2 hp1 hp2)).mono ?_)
      rintro e w' ⟨rfl, hE3⟩
      have hS := hS.below_step hE3.below
      refine ⟨_, rfl, ?_⟩
      refine WL.nil ?_
      refine ⟨hS, ?_⟩
      refine WD.take 6 rfl (by kernel_rfl) (fun _ _ _ h => fin_panic h) hS Val.as ?_
      refine WD.nil (by kernel_rfl) ?_
      refine W.ret ?_
      exact fin1 rfl rfl (PI.mk hS.toExt)

theorem implOrder_calls (F : Fz) (w0 : World) (hF : Sub F (hv w0)) (a b : Value) (es fs : List At) (hr : FRow F a es.length 4 (rowA es)) (hs : FRow F b fs.length 4 (rowA fs)) : Calls Try.prog 21 #[.agg #[a], .agg #[b]] w0 (PI F w0 (orderP es fs)) := by
  refine calls 28 Try.func21 rfl rfl rfl ?_
  have h := Hp.start hF
  refine W.seq (W.region rfl ?_)
  refine WL.box h rfl (fun b2 w h => ?_)
  refine WL.box h rfl (fun b3 w h => ?_)
  refine WL.p h Val.as ?_
  refine WL.nil ?_
  refine W.seq (W.region rfl ?_)
  refine WL.p h (Val.ldS 0 A42 T42 rfl rfl rfl) ?_
  refine WL.call C42 (args := [.agg #[a]]) rfl ((unpack_calls F w h.sub a es hr).mono ?_)
  rintro e w' ⟨F1, u1, ok1, rfl, hE, hu1⟩
  have h := h.call hE
  refine ⟨_, rfl, ?_⟩
  refine WL.p h Val.mv ?_
  refine WL.p h (Val.ext (v := u1) rfl rfl) ?_
  refine WL.p h (Val.ext (v := .bool ok1) rfl rfl) ?_
  refine WL.p h Val.as ?_
  refine WL.p h Val.as ?_
  refine WL.nil ?_
  refine W.seq (W.region rfl ?_)
  refine WL.p h (Val.ldS 1 A42 T42 rfl rfl rfl) ?_
  refine WL.call C42 (args := [.agg #[b]]) rfl ((unpack_calls F1 _ h.sub b fs (hs.mono hE.ext)).mono ?_)
  rintro e w' ⟨F2, u2, ok2, rfl, hE2, hu2⟩
  have h := h.call hE2
  refine ⟨_, rfl, ?_⟩
  refine WL.p h Val.mv ?_
  refine WL.p h (Val.ext (v := u2) rfl rfl) ?_
  refine WL.p h (Val.ext (v := .bool ok2) rfl rfl) ?_
  refine WL.p h Val.as ?_
  refine WL.p h Val.as ?_
  refine WL.nil ?_
  cases h1 : treeP es with
  | none =>
    have hor : orderP es fs = 0 := by rw [orderP, h1]
    rw [hor]
    rw [treeP_none h1] at hu1
    obtain rfl : ok1 = false := hu1
    refine W.seq (W.seq (W.region rfl ?_))
    refine WL.p h Val.mv ?_
    refine WL.p h (Val.not rfl) ?_
    refine WL.p h Val.mv ?_
    refine WL.no rfl (WL.no rfl (?_))
    refine WL.p h (Val.pick rfl) ?_
    refine WL.nil ?_
    refine W.condT rfl ?_
    refine W.seq (W.region rfl ?_)
    refine WL.p h Val.as ?_
    refine WL.nil ?_
    refine W.ret ?_
    exact fin1 (v := .int .i64 0) rfl rfl (PI.mk h.toExt)
  | some t =>
    obtain ⟨he, hw, _, it, hit, hun⟩ := treeP_some h1
    rw [hun] at hu1
    obtain ⟨rfl, hrep⟩ := hu1
    cases h2 : treeP fs with
    | none =>
      have hor : orderP es fs = 0 := by rw [orderP, h1, h2]
      rw [hor]
      rw [treeP_none h2] at hu2
      obtain rfl : ok2 = false := hu2
      refine W.seq (W.seq (W.region rfl ?_))
      refine WL.p h Val.mv ?_
      refine WL.p h (Val.not rfl) ?_
      refine WL.p h Val.mv ?_
      refine WL.p h Val.mv ?_
      refine WL.p h (Val.not rfl) ?_
      refine WL.p h (Val.pick rfl) ?_
      refine WL.nil ?_
      refine W.condT rfl ?_
      refine W.seq (W.region rfl ?_)
      refine WL.p h Val.as ?_
      refine WL.nil ?_
      refine W.ret ?_
      exact fin1 (v := .int .i64 0) rfl rfl (PI.mk h.toExt)
    | some u =>
      obtain ⟨he2, hw2, _, iu, hiu, hun2⟩ := treeP_some h2
      rw [hun2] at hu2
      obtain ⟨rfl, hrep2⟩ := hu2
      have hor : orderP es fs = ordT t u := by rw [orderP, h1, h2]
      rw [hor]
      refine W.seq (W.seq (W.region rfl ?_))
      refine WL.p h Val.mv ?_
      refine WL.p h (Val.not rfl) ?_
      refine WL.p h Val.mv ?_
      refine WL.p h Val.mv ?_
      refine WL.p h (Val.not rfl) ?_
      refine WL.p h (Val.pick rfl) ?_
      refine WL.nil ?_
      refine W.condF rfl ?_
      refine W.skip ?_
      refine W.seq (W.region rfl ?_)
      refine WL.p h Val.mv ?_
      refine WL.p h Val.mv ?_
      refine WL.call C45 (args := [u1, u2]) rfl ((order_calls _ F2 _ h.sub t u it iu u1 u2 hw hw2 hit hiu (Rep.mono hE2.ext _ _ hrep) hrep2 rfl).mono ?_)
      rintro e w' ⟨rfl, hE3⟩
      have h := h.call hE3
      refine ⟨_, rfl, ?_⟩
      refine WL.p h Val.as ?_
      refine WL.nil ?_
      refine W.ret ?_
      exact fin1 rfl rfl (PI.mk h.toExt)
end Go.Proofs.Ytmiihhbgfijcmaa.K

