/- Put together from Zg, Zh. -/
import Derived.Test.YtmiihhbgfijcmaaGreatZf
/- Targets: the program's test for a text twice. -/
namespace Go.Proofs.YtmiihhbgfijcmaaGreat.K
open Go Go.RowKit
set_option linter.unusedVariables false
set_option linter.unusedSimpArgs false
set_option maxRecDepth 20000
section
variable {P : Program} {R : Regs} {w0 : World} {F0 F : Fz} {L : List Ch} {d : Option Nat} {ty : TypeId} {pos : String} {af : Array Edge} {g : Option (Nat × Bool)}
/-- A key that the map has not. -/
theorem Val.lookupN {T kt et b size bytes : Nat} {z : Value} {m x : Operand} {M : SMap} {k : ByteArray} (hg : ∀ w, Hp w0 F0 F L w → w.heap[b]? = some (mobj M)) (ht : P.underlying T = some (.map kt et)) (hk : P.underlying kt = some .string) (hT : TI P et z size bytes) (hM : KeyB M) (hm : K.ev R m = .map (some b)) (hx : K.ev R x = .string k) (hs : k.size ≤ 9223372036854775807) (hno : ∀ p ∈ M, p.1 ≠ k) :
    Val P (Hp w0 F0 F L) R ⟨d, .lookup T m x false, ty, pos, af, g⟩ z := fun w h => by
  have Kk := Maps.string_keyed hk
  have hc := Kk.check w (ents M).isEmpty (keyR hk hs)
  have hb' : w.heap[b]? = some (.map (ents M) M.length) := hg w h
  rcases findM hk M hM k hs w with ⟨h1, h2⟩ | ⟨j', x', h1, h2⟩
  · have hc' : (Instr.checkKey (ents M).isEmpty 10000 kt (.string k)).run P w = .ok () w := hc
    simp [execOp, hm, hx, Instr.lookup, run_underlying ht, getObj, Sem.run, hb', Result.andThen, hc', h1, hT.zero w]
  · exact absurd rfl (hno _ (List.mem_of_getElem? h2))
end
def boolL (ss : List ByteArray) : SMap := ss.map fun x => (x, Value.bool true)
theorem keys_bool (ss : List ByteArray) : keysM (boolL ss) = ss := by simp [keysM, boolL, Function.comp_def]
theorem bool_mem {ss : List ByteArray} {p : ByteArray × Value} (h : p ∈ boolL ss) : p.1 ∈ ss ∧ p.2 = .bool true := by
  obtain ⟨x, hx, rfl⟩ := List.mem_map.1 h
  exact ⟨hx, rfl⟩
theorem nodup_take {ss : List ByteArray} {j : Nat} {x : ByteArray} (hx : ss[j]? = some x) (h : (ss.take j).Nodup) (hn : x ∉ ss.take j) : (ss.take (j + 1)).Nodup := by
  obtain ⟨l1, e1⟩ := List.getElem?_eq_some_iff.1 hx
  rw [List.take_succ_eq_append_getElem l1, e1, List.nodup_append]
  refine ⟨h, by simp, fun a ha b hb e => ?_⟩
  rw [List.mem_singleton] at hb
  subst hb
  exact hn (e ▸ ha)
theorem not_nodup_take {ss : List ByteArray} {j : Nat} {x : ByteArray} (hx : ss[j]? = some x) (hn : x ∈ ss.take j) : ¬ ss.Nodup := dup_of hx hn
set_option maxHeartbeats 1000000 in
theorem twice_calls (F : Fz) (w0 : World) (hF : Sub F (hv w0)) (v : Value) (ss : List ByteArray) (hr : FRow F v ss.length 1 (rowS ss)) (hz : ∀ x ∈ ss, x.size ≤ 9223372036854775807) : Calls Tryz.prog 22 #[v] w0 (PBz F w0 (¬ ss.Nodup)) := by
  refine calls 19 Tryz.func22 rfl rfl rfl ?_
  have h := Hp.start hF
  have hmax := hr.max
  refine W.seq (W.region rfl ?_)
  refine WL.p h Val.as ?_
  refine WL.nil ?_
  refine W.seq (W.region rfl ?_)
  refine WL.makeMap h (fun bm w h => ?_)
  refine WL.p h Val.as ?_
  refine WL.nil ?_
  refine W.seq (W.seq (W.region rfl ?_))
  refine WL.p h Val.mv ?_
  refine WL.p h (Val.len Tryz.underlying41 rfl hr.val) ?_
  refine WL.p h Val.mv ?_
  refine WL.nil ?_
  refine W.block ?_
  refine W.loop (fun m R w => ∃ j, m + j = ss.length ∧ Hp w0 F F [.obj bm (mobj (boolL (ss.take j)))] w ∧ (ss.take j).Nodup ∧ R 3 = .map (some bm) ∧ R 7 = v ∧ R 8 = .int .i64 (ss.length : Int) ∧ R 9 = .int .i64 (j : Int)) ss.length ⟨0, by omega, h, by simp, rfl, rfl, rfl, rfl⟩ (fun m R w hI => ?_)
  clear h
  obtain ⟨j, hm, h, hnd, h3, h7, h8, h9⟩ := hI
  refine W.seq (W.region rfl ?_)
  refine WL.p h (Val.lt h9 h8) ?_
  refine WL.dec (fun c1 => ?_) (fun c1 => ?_)
  · obtain ⟨x, hx⟩ : ∃ x, ss[j]? = some x := ⟨_, List.getElem?_eq_getElem (by omega)⟩
    have hxs := hz x (List.mem_of_getElem? hx)
    have hK : KeyB (boolL (ss.take j)) := fun p hp => hz _ (List.mem_of_mem_take (bool_mem hp).1)
    have hN : (keysM (boolL (ss.take j))).Nodup := by rw [keys_bool]; exact hnd
    refine WL.nil ?_
    refine W.seq ?_
    refine W.condT rfl ?_
    refine W.skip ?_
    refine W.seq (W.block ?_)
    refine W.seq (W.region rfl ?_)
    refine WL.p h (Val.ix (i := j) Tryz.underlying41 T9 h7 h9 (hr.slice (by omega)) (by omega)) ?_
    refine WL.p h (Val.ldR A9 hr rfl (rowS_get hx)) ?_
    refine WL.p h Val.as ?_
    refine WL.nil ?_
    refine W.seq (W.seq (W.region rfl ?_))
    refine WL.p h Val.mv ?_
    refine WL.p h Val.mv ?_
    by_cases hin : x ∈ ss.take j
    · obtain ⟨i, hi⟩ : ∃ i, (boolL (ss.take j))[i]? = some (x, Value.bool true) := List.mem_iff_getElem?.1 (List.mem_map.2 ⟨x, hin, rfl⟩)
      refine WL.p h (Val.lookup (v := .bool true) (fun w h => h.holds 0 _ rfl) Tryz.underlying56 Tryz.underlying9 hK hN h3 rfl hi) ?_
      refine WL.nil ?_
      refine W.condT rfl ?_
      refine W.seq (W.region rfl ?_)
      refine WL.p h Val.as ?_
      refine WL.nil ?_
      refine W.ret ?_
      exact fin1 (v := .bool true) rfl rfl (PBz.yes h.toExt (not_nodup_take hx hin))
    · have hno : ∀ p ∈ boolL (ss.take j), p.1 ≠ x := fun p hp e => hin (e ▸ (bool_mem hp).1)
      have hst : updM (boolL (ss.take j)) x (.bool true) = boolL (ss.take (j + 1)) := by
        obtain ⟨l1, e1⟩ := List.getElem?_eq_some_iff.1 hx
        rw [updM_none _ _ _ hno, List.take_succ_eq_append_getElem l1, e1]
        simp [boolL]
      have hnd2 := nodup_take hx hnd hin
      refine WL.p h (Val.lookupN (fun w h => h.holds 0 _ rfl) Tryz.underlying56 Tryz.underlying9 T4 hK h3 rfl hxs hno) ?_
      refine WL.nil ?_
      refine W.condF rfl ?_
      refine W.skip ?_
      refine W.region rfl ?_
      refine WL.p h Val.mv ?_
      refine WL.p h Val.mv ?_
      refine WL.mapUp 0 h rfl Tryz.underlying56 Tryz.underlying9 hK hN h3 rfl rfl hxs (fun w h => ?_)
      have h : Hp w0 F F [.obj bm (mobj (updM (boolL (ss.take j)) x (.bool true)))] w := h
      refine WL.nil ?_
      refine W.region rfl ?_
      refine WL.p h (Val.addi (c := ((j + 1 : Nat) : Int)) h9 rfl (by omega)) ?_
      refine WL.p h Val.mv ?_
      refine WL.nil ?_
      exact ⟨m - 1, by omega, j + 1, by omega, hst ▸ h, hnd2, h3, h7, h8, rfl⟩
  · rw [List.take_of_length_le (show ss.length ≤ j by omega)] at hnd
    refine WL.nil ?_
    refine W.seq ?_
    refine W.condF rfl ?_
    refine W.exit ?_
    refine W.seq (W.region rfl ?_)
    refine WL.p h Val.as ?_
    refine WL.nil ?_
    refine W.ret ?_
    exact fin1 (v := .bool false) rfl rfl (PBz.no h.toExt (not_not_intro hnd))
end Go.Proofs.YtmiihhbgfijcmaaGreat.K


/- Targets: the program's list of texts, walked. -/
namespace Go.Proofs.YtmiihhbgfijcmaaGreat.K
open Go Go.RowKit
set_option linter.unusedVariables false
set_option linter.unusedSimpArgs false
set_option maxRecDepth 20000
theorem Arg.y9 {F : Fz} {t : T} {a : Value} (h : Arg F t a) (e : t.atom.k = 4) : a = .iface 9 (.string t.atom.t) := h.v9.elim (fun h => h.2.2) (fun h => absurd e h.1)
theorem Arg.n9 {F : Fz} {t : T} {a : Value} (h : Arg F t a) (e : t.atom.k ≠ 4) : NT 9 a := h.v9.elim (fun h => absurd h.1 e) (fun h => h.2)
theorem Arg.n110 {F : Fz} {t : T} {a : Value} (h : Arg F t a) (e : t.atom.k ≠ 5) : NT 90 a := h.v110.elim (fun h => absurd h.1 e) (fun h => h.2)
theorem Arg.y110 {F : Fz} {t : T} {a : Value} (h : Arg F t a) (e : t.atom.k = 5) : ∃ k u us, evalTs t.kids = some k ∧ t.kids.length ≤ 200 ∧ a = .iface 90 u ∧ FRow F u t.kids.length 1 us ∧ Reps F (k.map It.v) us := h.v110.elim (fun h => h.2) (fun h => absurd e h.1)
/-- An element seen: its tree, its value, as text or not. -/
theorem kid_text {F : Fz} {t x : T} {a : Value} (ha : Arg F t a) {k : List It} {us : List Value} (hk : evalTs t.kids = some k) (hrs : Reps F (k.map It.v) us) {j : Nat} (hx : t.kids[j]? = some x) : ∃ s, us[j]? = some s ∧ (x.atom.k = 4 → s = .iface 9 (.string x.atom.t)) ∧ (x.atom.k ≠ 4 → NT 9 s) := by
  obtain ⟨it, h2, h1⟩ := evalTs_get hk _ _ hx
  have h3 : (k.map It.v)[j]? = some it.v := by rw [List.getElem?_map, h2]; rfl
  obtain ⟨s, h4, h5⟩ := hrs.get h3
  refine ⟨s, h4, ?_⟩
  have hw := ha.vt.kid_wf _ (List.mem_of_getElem? hx)
  cases x with
  | node c ks =>
    obtain ⟨k', _, hi⟩ := evalT_inner hw h1
    have hi := hi
    generalize it.v = vv at hi h5
    cases hi with
    | none g1 => exact ⟨fun e => by have e : c.k = 4 := e; omega, fun _ => .inl (by simpa [Rep] using h5)⟩
    | bool g1 => exact ⟨fun e => by have e : c.k = 4 := e; omega, fun _ => .inr ⟨4, _, by simpa [Rep] using h5, by decide⟩⟩
    | int g1 => exact ⟨fun e => by have e : c.k = 4 := e; omega, fun _ => .inr ⟨2, _, by simpa [Rep] using h5, by decide⟩⟩
    | text g1 => exact ⟨fun _ => by simp only [Rep] at h5; exact h5, fun e => absurd g1 e⟩
    | list g1 => simp only [Rep] at h5; obtain ⟨u, us, h3, _⟩ := h5; exact ⟨fun e => by have e : c.k = 4 := e; omega, fun _ => .inr ⟨90, _, h3, by decide⟩⟩
    | record g1 => simp only [Rep] at h5; obtain ⟨u, us, s, h3, _⟩ := h5; exact ⟨fun e => by have e : c.k = 4 := e; omega, fun _ => .inr ⟨92, _, h3, by decide⟩⟩
open Classical in
noncomputable def textsA (t : T) : Option (List ByteArray) := if t.atom.k = 5 ∧ ∀ (i : Nat) x, t.kids[i]? = some x → x.atom.k = 4 then some (t.kids.map fun k => k.atom.t) else none
def PTs (F : Fz) (w0 : World) (o : Option (List ByteArray)) (e : Ending) (w : World) : Prop := ∃ s, e = .returned (.tuple #[s, .bool o.isSome]) ∧ Hp w0 F F [.own s 9 1 (o.getD []).length (rowS (o.getD []))] w
theorem PTs.no {F w0 w} {o : Option (List ByteArray)} (h : Hp w0 F F [.own (.slice none 0 0) 9 1 0 []] w) (ho : o = none) : PTs F w0 o (.returned (.tuple #[.slice none 0 0, .bool false])) w := ⟨_, by rw [ho]; rfl, by rw [ho]; exact h⟩
theorem PTs.yes {F w0 w} {o : Option (List ByteArray)} {l : List ByteArray} {s : Value} (h : Hp w0 F F [.own s 9 1 l.length (rowS l)] w) (ho : o = some l) : PTs F w0 o (.returned (.tuple #[s, .bool true])) w := ⟨_, by rw [ho]; rfl, by rw [ho]; exact h⟩
theorem textsA_no {t : T} (h : t.atom.k ≠ 5) : textsA t = none := by rw [textsA, if_neg (fun e => h e.1)]
theorem textsA_bad {t : T} {j : Nat} {x : T} (hx : t.kids[j]? = some x) (h : x.atom.k ≠ 4) : textsA t = none := by rw [textsA, if_neg (fun e => h (e.2 j x hx))]
theorem textsA_ok {t : T} (h5 : t.atom.k = 5) (h : ∀ (i : Nat) x, t.kids[i]? = some x → x.atom.k = 4) : textsA t = some (t.kids.map fun k => k.atom.t) := by rw [textsA, if_pos ⟨h5, h⟩]
theorem texts_no (F : Fz) (w0 : World) (hF : Sub F (hv w0)) {t : T} {a : Value} (ha : Arg F t a) (h5 : t.atom.k ≠ 5) : Calls Tryz.prog 43 #[a] w0 (PTs F w0 (textsA t)) := by
  have hn := ha.n110 h5
  refine calls 37 Tryz.func43 rfl rfl rfl ?_
  have h := Hp.start hF
  refine W.seq (W.region rfl ?_)
  refine WL.p h Val.as ?_
  refine WL.p h Val.as ?_
  refine WL.nil ?_
  refine W.seq (W.region rfl ?_)
  refine WL.p h Val.mv ?_
  refine WL.p h (Val.taF N110 T110 rfl hn) ?_
  refine WL.p h Val.mv ?_
  refine WL.p h (Val.ext rfl rfl) ?_
  refine WL.p h (Val.ext rfl rfl) ?_
  refine WL.p h Val.as ?_
  refine WL.p h Val.as ?_
  refine WL.nil ?_
  refine W.seq (W.seq (W.region rfl ?_))
  refine WL.p h Val.mv ?_
  refine WL.p h (Val.not rfl) ?_
  refine WL.nil ?_
  refine W.condT rfl ?_
  refine W.seq (W.region rfl ?_)
  refine WL.p h Val.as ?_
  refine WL.p h Val.as ?_
  refine WL.nil ?_
  refine W.ret ?_
  exact fin2 (v := .slice none 0 0) (x := .bool false) rfl rfl rfl (PTs.no (h.nilRow 9 1) (textsA_no h5))
set_option maxHeartbeats 1000000 in
theorem texts_list (F : Fz) (w0 : World) (hF : Sub F (hv w0)) {t : T} {a : Value} (ha : Arg F t a) (h5 : t.atom.k = 5) : Calls Tryz.prog 43 #[a] w0 (PTs F w0 (textsA t)) := by
  obtain ⟨k, u, us, hk, hkl, hav, hrow, hrs⟩ := ha.y110 h5
  refine calls 37 Tryz.func43 rfl rfl rfl ?_
  have h := Hp.start hF
  refine W.seq (W.region rfl ?_)
  refine WL.p h Val.as ?_
  refine WL.p h Val.as ?_
  refine WL.nil ?_
  refine W.seq (W.region rfl ?_)
  refine WL.p h Val.mv ?_
  refine WL.p h (Val.taY N110 hav) ?_
  refine WL.p h Val.mv ?_
  refine WL.p h (Val.ext rfl rfl) ?_
  refine WL.p h (Val.ext rfl rfl) ?_
  refine WL.p h Val.as ?_
  refine WL.p h Val.as ?_
  refine WL.nil ?_
  refine W.seq (W.seq (W.region rfl ?_))
  refine WL.p h Val.mv ?_
  refine WL.p h (Val.not rfl) ?_
  refine WL.nil ?_
  refine W.condF rfl ?_
  refine W.skip ?_
  refine W.seq (W.region rfl ?_)
  refine WL.p h Val.as ?_
  refine WL.nil ?_
  have h := h.nilRow 9 1
  refine W.seq (W.seq (W.region rfl ?_))
  refine WL.p h Val.mv ?_
  refine WL.p h (Val.len Tryz.underlying90 rfl hrow.val) ?_
  refine WL.p h Val.mv ?_
  refine WL.nil ?_
  refine W.block ?_
  refine W.loop (fun m R w => ∃ j ov, m + j = t.kids.length ∧ Hp w0 F F [.own ov 9 1 ((t.kids.take j).map fun k => k.atom.t).length (rowS ((t.kids.take j).map fun k => k.atom.t))] w ∧ (∀ (i : Nat) x, i < j → t.kids[i]? = some x → x.atom.k = 4) ∧ R 6 = ov ∧ R 18 = u ∧ R 19 = .int .i64 (t.kids.length : Int) ∧ R 20 = .int .i64 (j : Int)) t.kids.length ⟨0, _, by omega, h, fun i x hi => by omega, rfl, rfl, rfl, rfl⟩ (fun m R w hI => ?_)
  clear h
  obtain ⟨j, ov, hm, h, hall, h6, h18, h19, h20⟩ := hI
  refine W.seq (W.region rfl ?_)
  refine WL.p h (Val.lt h20 h19) ?_
  refine WL.dec (fun c1 => ?_) (fun c1 => ?_)
  · obtain ⟨x, hx⟩ : ∃ x, t.kids[j]? = some x := ⟨_, List.getElem?_eq_getElem (by omega)⟩
    obtain ⟨s1, hs1, hy, hn⟩ := kid_text ha hk hrs hx
    have hl : ((t.kids.take j).map fun k => k.atom.t).length ≤ j := by simp; omega
    refine WL.nil ?_
    refine W.seq ?_
    refine W.condT rfl ?_
    refine W.skip ?_
    refine W.seq (W.block ?_)
    refine W.seq (W.region rfl ?_)
    refine WL.p h (Val.ix (i := j) Tryz.underlying90 T71 h18 h20 (hrow.slice (by omega)) (by omega)) ?_
    refine WL.p h (Val.ldR A71 hrow rfl (show us[j * 1]? = some s1 by rw [Nat.mul_one]; exact hs1)) ?_
    refine WL.p h Val.as ?_
    refine WL.nil ?_
    refine W.seq (W.region rfl ?_)
    refine WL.p h Val.mv ?_
    by_cases k4 : x.atom.k = 4
    · have hst : ((t.kids.take j).map fun k => k.atom.t) ++ [x.atom.t] = (t.kids.take (j + 1)).map fun k => k.atom.t := by
        obtain ⟨l1, e1⟩ := List.getElem?_eq_some_iff.1 hx
        rw [List.take_succ_eq_append_getElem l1, e1]; simp
      refine WL.p h (Val.taY N9 (hy k4)) ?_
      refine WL.p h Val.mv ?_
      refine WL.p h (Val.ext rfl rfl) ?_
      refine WL.p h (Val.ext rfl rfl) ?_
      refine WL.p h Val.as ?_
      refine WL.p h Val.as ?_
      refine WL.nil ?_
      refine W.seq (W.seq (W.region rfl ?_))
      refine WL.p h Val.mv ?_
      refine WL.p h (Val.not rfl) ?_
      refine WL.nil ?_
      refine W.condF rfl ?_
      refine W.skip ?_
      refine W.region rfl ?_
      refine WL.p h Val.mv ?_
      refine WL.p h Val.mv ?_
      refine WL.bs1 h Tryz.underlying41 T9 (by decide) (cs := [.string x.atom.t]) rfl rfl (fun b8 w h => ?_)
      refine WL.app 0 h rfl Tryz.underlying41 T9 (by decide) h6 rfl (news := [.string x.atom.t]) rfl (box_news h (i := 1) rfl) (by simp [Value.oneCell']) (by omega) (by omega) (fun ov' w h => ?_)
      refine WL.p h Val.as ?_
      refine WL.nil ?_
      have h := own_snoc h
      rw [hst] at h
      refine W.region rfl ?_
      refine WL.p h (Val.addi (c := ((j + 1 : Nat) : Int)) h20 rfl (by omega)) ?_
      refine WL.p h Val.mv ?_
      refine WL.nil ?_
      exact ⟨m - 1, by omega, j + 1, ov', by omega, h, fun i y hi hy => by
        by_cases e : i = j
        · subst e; rw [hx] at hy; cases hy; exact k4
        · exact hall i y (by omega) hy, rfl, h18, h19, rfl⟩
    · refine WL.p h (Val.taF N9 T9 rfl (hn k4)) ?_
      refine WL.p h Val.mv ?_
      refine WL.p h (Val.ext rfl rfl) ?_
      refine WL.p h (Val.ext rfl rfl) ?_
      refine WL.p h Val.as ?_
      refine WL.p h Val.as ?_
      refine WL.nil ?_
      refine W.seq (W.seq (W.region rfl ?_))
      refine WL.p h Val.mv ?_
      refine WL.p h (Val.not rfl) ?_
      refine WL.nil ?_
      refine W.condT rfl ?_
      refine W.seq (W.region rfl ?_)
      refine WL.p h Val.as ?_
      refine WL.p h Val.as ?_
      refine WL.nil ?_
      refine W.ret ?_
      exact fin2 (v := .slice none 0 0) (x := .bool false) rfl rfl rfl (PTs.no ((h.nilRow 9 1).only 1 rfl) (textsA_bad hx k4))
  · have hj : t.kids.length ≤ j := by omega
    rw [List.take_of_length_le hj] at h
    have hok := textsA_ok h5 fun i x hx => hall i x (by have := (List.getElem?_eq_some_iff.1 hx).1; omega) hx
    refine WL.nil ?_
    refine W.seq ?_
    refine W.condF rfl ?_
    refine W.exit ?_
    refine W.seq (W.region rfl ?_)
    refine WL.p h Val.mv ?_
    refine WL.p h Val.as ?_
    refine WL.p h Val.as ?_
    refine WL.nil ?_
    refine W.ret ?_
    exact fin2 (v := ov) (x := .bool true) rfl h6 rfl (PTs.yes h hok)
theorem texts_calls (F : Fz) (w0 : World) (hF : Sub F (hv w0)) {t : T} {a : Value} (ha : Arg F t a) : Calls Tryz.prog 43 #[a] w0 (PTs F w0 (textsA t)) := by
  by_cases h5 : t.atom.k = 5
  · exact texts_list F w0 hF ha h5
  · exact texts_no F w0 hF ha h5
end Go.Proofs.YtmiihhbgfijcmaaGreat.K


