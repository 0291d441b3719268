/- Put together from Za, Zb, Zc, Zd. -/
import Derived.Test.YtmiihhbgfijcmaaGreatOv
/- Targets: the reference's lists of texts, walked. -/
namespace Go.Proofs.YtmiihhbgfijcmaaGreat.K
open Go Go.RowKit
set_option linter.unusedVariables false
set_option linter.unusedSimpArgs false
set_option maxRecDepth 20000
theorem C16z : CF Tryz.prog 16 := ⟨_, Tryz.func16, rfl, rfl⟩
theorem C17z : CF Tryz.prog 17 := ⟨_, Tryz.func17, rfl, rfl⟩
theorem C18z : CF Tryz.prog 18 := ⟨_, Tryz.func18, rfl, rfl⟩
theorem C41z : CF Tryz.prog 41 := ⟨_, Tryz.func41, rfl, rfl⟩
/-- What a function tells that hands back whether p. -/
def PBz (F : Fz) (w0 : World) (p : Prop) (e : Ending) (w : World) : Prop := ∃ b, e = .returned (.bool b) ∧ (b = true ↔ p) ∧ Ext F w0 F w
theorem PBz.no {F w0 p w} {F' : Fz} (hE : Ext F w0 F' w) (hn : ¬ p) : PBz F w0 p (.returned (.bool false)) w := ⟨false, rfl, by simp [hn], hE.forget⟩
theorem PBz.yes {F w0 p w} {F' : Fz} (hE : Ext F w0 F' w) (hn : p) : PBz F w0 p (.returned (.bool true)) w := ⟨true, rfl, by simp [hn], hE.forget⟩
def rowS (ss : List ByteArray) : List Value := ss.map Value.string
theorem rowS_get {ss : List ByteArray} {j : Nat} {x : ByteArray} (h : ss[j]? = some x) : (rowS ss)[j * 1]? = some (.string x) := by rw [Nat.mul_one, rowS, List.getElem?_map, h]; rfl
theorem rowS_len (ss : List ByteArray) : (rowS ss).length = ss.length := by simp [rowS]
theorem rowS_one {ss : List ByteArray} : ∀ v ∈ rowS ss, v.oneCell' = true := by
  intro v hv
  obtain ⟨x, _, rfl⟩ := List.mem_map.1 hv
  rfl
theorem notin_of {ss : List ByteArray} {s : ByteArray} {j : Nat} (hj : ss.length ≤ j) (hno : ∀ (i : Nat) x, i < j → ss[i]? = some x → x ≠ s) : s ∉ ss := by
  intro h
  obtain ⟨i, hi⟩ := List.mem_iff_getElem?.1 h
  exact hno i s (by have := (List.getElem?_eq_some_iff.1 hi).1; omega) hi rfl
theorem l1Has_calls (F : Fz) (w0 : World) (hF : Sub F (hv w0)) (v : Value) (ss : List ByteArray) (s : ByteArray) (hr : FRow F v ss.length 1 (rowS ss)) : Calls Tryz.prog 16 #[v, .string s] w0 (PBz F w0 (s ∈ ss)) := by
  refine calls 18 Tryz.func16 rfl rfl rfl ?_
  have h := Hp.start hF
  have hmax := hr.max
  refine W.seq (W.region rfl ?_)
  refine WL.p h Val.as ?_
  refine WL.nil ?_
  refine W.seq (W.seq (W.region rfl ?_))
  refine WL.p h Val.as ?_
  refine WL.nil ?_
  refine W.block ?_
  refine W.loop (fun m R w => ∃ j, m + j = ss.length ∧ Hp w0 F F [] w ∧ (∀ (i : Nat) x, i < j → ss[i]? = some x → x ≠ s) ∧ R 0 = v ∧ R 1 = .string s ∧ R 5 = .int .i64 (j : Int)) ss.length ⟨0, by omega, h, fun i x hi => by omega, rfl, rfl, rfl⟩ (fun m R w hI => ?_)
  clear h
  obtain ⟨j, hm, h, hno, h0, h1, h5⟩ := hI
  refine W.seq (W.seq (W.region rfl ?_))
  refine WL.p h Val.mv ?_
  refine WL.p h Val.mv ?_
  refine WL.p h (Val.len Tryz.underlying41 h0 hr.val) ?_
  refine WL.p h (Val.lt h5 rfl) ?_
  refine WL.dec (fun c1 => ?_) (fun c1 => ?_)
  · obtain ⟨x, hx⟩ : ∃ x, ss[j]? = some x := ⟨_, List.getElem?_eq_getElem (by omega)⟩
    refine WL.nil ?_
    refine W.condT rfl ?_
    refine W.skip ?_
    refine W.seq (W.block ?_)
    refine W.seq (W.region rfl ?_)
    refine WL.p h Val.mv ?_
    refine WL.p h Val.mv ?_
    refine WL.p h (Val.ix (i := j) Tryz.underlying41 T9 h0 h5 (hr.slice (by omega)) (by omega)) ?_
    refine WL.p h (Val.ldR A9 hr rfl (rowS_get hx)) ?_
    refine WL.p h Val.mv ?_
    refine WL.p h (Val.sEq (a := x) (b := s) rfl h1) ?_
    refine WL.dec (fun c2 => ?_) (fun c2 => ?_)
    · refine WL.nil ?_
      refine W.condT rfl ?_
      refine W.seq (W.region rfl ?_)
      refine WL.p h Val.as ?_
      refine WL.nil ?_
      refine W.ret ?_
      exact fin1 (v := .bool true) rfl rfl (PBz.yes h.toExt (c2 ▸ List.mem_of_getElem? hx))
    · refine WL.nil ?_
      refine W.condF rfl ?_
      refine W.skip ?_
      refine W.region rfl ?_
      refine WL.p h Val.mv ?_
      refine WL.p h (Val.addi (c := ((j + 1 : Nat) : Int)) h5 rfl (by omega)) ?_
      refine WL.p h Val.as ?_
      refine WL.nil ?_
      exact ⟨m - 1, by omega, j + 1, by omega, h, fun i y hi hy => by
        by_cases e : i = j
        · subst e; rw [hx] at hy; cases hy; exact c2
        · exact hno i y (by omega) hy, h0, h1, rfl⟩
  · refine WL.nil ?_
    refine W.condF rfl ?_
    refine W.exit ?_
    refine W.seq (W.region rfl ?_)
    refine WL.p h Val.as ?_
    refine WL.nil ?_
    refine W.ret ?_
    exact fin1 (v := .bool false) rfl rfl (PBz.no h.toExt (notin_of (by omega) hno))
theorem nodup_of {ss : List ByteArray} {j : Nat} (hj : ss.length ≤ j) (hno : ∀ (i : Nat) x, i < j → ss[i]? = some x → x ∉ ss.take i) : ss.Nodup := by
  rw [List.Nodup, List.pairwise_iff_getElem]
  intro a b ha hb hab e
  have := hno b ss[b] (by omega) (List.getElem?_eq_getElem hb)
  refine this ?_
  rw [← e]
  exact List.mem_of_getElem? (i := a) (by rw [List.getElem?_take_of_lt hab, List.getElem?_eq_getElem ha])
theorem dup_of {ss : List ByteArray} {j : Nat} {x : ByteArray} (hx : ss[j]? = some x) (h : x ∈ ss.take j) : ¬ ss.Nodup := by
  intro hn
  obtain ⟨i, hi⟩ := List.mem_iff_getElem?.1 h
  have hl := (List.getElem?_eq_some_iff.1 hi).1
  simp only [List.length_take] at hl
  rw [List.getElem?_take_of_lt (by omega)] at hi
  obtain ⟨l1, e1⟩ := List.getElem?_eq_some_iff.1 hi
  obtain ⟨l2, e2⟩ := List.getElem?_eq_some_iff.1 hx
  rw [List.Nodup, List.pairwise_iff_getElem] at hn
  exact hn i j l1 l2 (by omega) (e1.trans e2.symm)
theorem l9Twice_calls (F : Fz) (w0 : World) (hF : Sub F (hv w0)) (v : Value) (ss : List ByteArray) (hr : FRow F v ss.length 1 (rowS ss)) : Calls Tryz.prog 17 #[v] w0 (PBz F w0 (¬ ss.Nodup)) := by
  refine calls 18 Tryz.func17 rfl rfl rfl ?_
  have h := Hp.start hF
  have hmax := hr.max
  refine W.seq (W.region rfl ?_)
  refine WL.p h Val.as ?_
  refine WL.nil ?_
  refine W.seq (W.seq (W.region rfl ?_))
  refine WL.p h Val.as ?_
  refine WL.nil ?_
  refine W.block ?_
  refine W.loop (fun m R w => ∃ j, m + j = ss.length ∧ Hp w0 F F [] w ∧ (∀ (i : Nat) x, i < j → ss[i]? = some x → x ∉ ss.take i) ∧ R 0 = v ∧ R 3 = .int .i64 (j : Int)) ss.length ⟨0, by omega, h, fun i x hi => by omega, rfl, rfl⟩ (fun m R w hI => ?_)
  clear h
  obtain ⟨j, hm, h, hno, h0, h3⟩ := hI
  refine W.seq (W.seq (W.region rfl ?_))
  refine WL.p h Val.mv ?_
  refine WL.p h Val.mv ?_
  refine WL.p h (Val.len Tryz.underlying41 h0 hr.val) ?_
  refine WL.p h (Val.lt h3 rfl) ?_
  refine WL.dec (fun c1 => ?_) (fun c1 => ?_)
  · obtain ⟨x, hx⟩ : ∃ x, ss[j]? = some x := ⟨_, List.getElem?_eq_getElem (by omega)⟩
    have hrj : FRow F (headS v j) (ss.take j).length 1 (rowS (ss.take j)) := by
      have := hr.head (i := j) (by omega)
      rw [Nat.mul_one] at this
      rw [List.length_take, Nat.min_eq_left (by omega), rowS, List.map_take]
      exact this
    refine WL.nil ?_
    refine W.condT rfl ?_
    refine W.skip ?_
    refine W.seq (W.block ?_)
    refine W.seq (W.draw (fun w => Hp w0 F F [] w) [] 8 (by kernel_rfl) rfl rfl ?_)
    have hS := h.drewN 1
    refine WD.take 0 rfl (by kernel_rfl) (fun _ _ _ h => fin_panic h) hS Val.mv ?_
    refine WD.take 1 rfl (by kernel_rfl) (fun _ _ _ h => fin_panic h) hS Val.mv ?_
    refine WD.take 2 rfl (by kernel_rfl) (fun _ _ _ h => fin_panic h) hS (Val.slToV Tryz.underlying41 T9 h0 h3 hr.val (by omega)) ?_
    refine WD.take 3 rfl (by kernel_rfl) (fun _ _ _ h => fin_panic h) hS Val.mv ?_
    refine WD.take 4 rfl (by kernel_rfl) (fun _ _ _ h => fin_panic h) hS Val.mv ?_
    refine WD.take 5 rfl (by kernel_rfl) (fun _ _ _ h => fin_panic h) hS (Val.ix (i := j) Tryz.underlying41 T9 h0 h3 (hr.slice (by omega)) (by omega)) ?_
    refine WD.take 6 rfl (by kernel_rfl) (fun _ _ _ h => fin_panic h) hS (Val.ldR A9 hr rfl (rowS_get hx)) ?_
    refine WD.one 7 rfl (by kernel_rfl) ?_
    refine WL.call C16z (args := [headS v j, .string x]) rfl ((l1Has_calls F _ hS.sub (headS v j) (ss.take j) x hrj).mono ?_)
    rintro e w' ⟨b, rfl, hb, hE⟩
    have h := hS.call hE
    refine ⟨_, rfl, ?_⟩
    refine WL.nil ?_
    refine ⟨h, ?_⟩
    refine WD.decB (fun c2 => ?_) (fun c2 => ?_)
    · refine WD.nil (by kernel_rfl) ?_
      refine W.condT rfl ?_
      refine W.seq (W.region rfl ?_)
      refine WL.p h Val.as ?_
      refine WL.nil ?_
      refine W.ret ?_
      exact fin1 (v := .bool true) rfl rfl (PBz.yes h.toExt (dup_of hx (hb.1 c2)))
    · refine WD.nil (by kernel_rfl) ?_
      refine W.condF rfl ?_
      refine W.skip ?_
      refine W.region rfl ?_
      refine WL.p h Val.mv ?_
      refine WL.p h (Val.addi (c := ((j + 1 : Nat) : Int)) h3 rfl (by omega)) ?_
      refine WL.p h Val.as ?_
      refine WL.nil ?_
      exact ⟨m - 1, by omega, j + 1, by omega, h, fun i y hi hy => by
        by_cases e : i = j
        · subst e; rw [hx] at hy; cases hy; exact fun h => by rw [hb.2 h] at c2; cases c2
        · exact hno i y (by omega) hy, h0, rfl⟩
  · refine WL.nil ?_
    refine W.condF rfl ?_
    refine W.exit ?_
    refine W.seq (W.region rfl ?_)
    refine WL.p h Val.as ?_
    refine WL.nil ?_
    refine W.ret ?_
    exact fin1 (v := .bool false) rfl rfl (PBz.no h.toExt (not_not_intro (nodup_of (by omega) hno)))
end Go.Proofs.YtmiihhbgfijcmaaGreat.K


/- Targets: the reference's sorted lists, walked. -/
namespace Go.Proofs.YtmiihhbgfijcmaaGreat.K
open Go Go.RowKit
set_option linter.unusedVariables false
set_option linter.unusedSimpArgs false
set_option maxRecDepth 20000
def unitL (ss : List ByteArray) : AL Unit := ss.map fun x => (x, ())
def putB (s : ByteArray) (ss : List ByteArray) (d : Bool) : List ByteArray := keysM (setA s () (unitL ss) d)
theorem putB_nil (s : ByteArray) (d : Bool) : putB s [] d = if d = true then [] else [s] := by cases d <;> rfl
theorem putB_cons (s x : ByteArray) (r : List ByteArray) (d : Bool) : putB s (x :: r) d = (if d = false ∧ ¬ ltN x s then [s] else []) ++ (if x ≠ s then [x] else []) ++ putB s r (d || decide (¬ ltN x s)) := by
  have e : ∀ (c : Prop) [Decidable c] (y : ByteArray), List.map (fun p : ByteArray × Unit => p.1) (if c then [(y, ())] else []) = if c then [y] else [] := fun c _ y => by split <;> rfl
  simp only [putB, unitL, List.map_cons, setA, keysM, List.map_append, e]
theorem putB_len (s : ByteArray) : ∀ (ss : List ByteArray) (d : Bool), (putB s ss d).length ≤ 2 * ss.length + 1
  | [], d => by rw [putB_nil]; cases d <;> simp
  | x :: r, d => by
    have := putB_len s r (d || decide (¬ ltN x s))
    rw [putB_cons]
    have a1 : ∀ (c : Prop) [Decidable c] (y : ByteArray), (if c then [y] else []).length ≤ 1 := fun c _ y => by split <;> simp
    have b1 := a1 (d = false ∧ ¬ ltN x s) s
    have b2 := a1 (x ≠ s) x
    simp only [List.length_append, List.length_cons]
    omega
/-- What a function tells that hands back texts. -/
def PRow (F : Fz) (w0 : World) (ss : List ByteArray) (e : Ending) (w : World) : Prop := ∃ F' s, e = .returned s ∧ Ext F w0 F' w ∧ FRow F' s ss.length 1 (rowS ss)
def lpI (w0 : World) (F : Fz) (v : Value) (s : ByteArray) (ss : List ByteArray) (j : Nat) (R : Regs) (w : World) : Prop :=
  ∃ (out : List ByteArray) (d : Bool) (ov : Value), Hp w0 F F [.own ov 9 1 out.length (rowS out)] w ∧ out ++ putB s (ss.drop j) d = putB s ss false ∧ out.length ≤ 2 * j ∧ R 0 = v ∧ R 1 = .string s ∧ R 5 = ov ∧ R 6 = .bool d ∧ R 7 = .int .i64 (j : Int)
def lpJ (w0 : World) (F : Fz) (v : Value) (s : ByteArray) (ss : List ByteArray) (j : Nat) (x : ByteArray) (R : Regs) (w : World) : Prop :=
  ∃ (out : List ByteArray) (d : Bool) (ov : Value), Hp w0 F F [.own ov 9 1 out.length (rowS out)] w ∧ out ++ ((if x ≠ s then [x] else []) ++ putB s (ss.drop (j + 1)) d) = putB s ss false ∧ out.length ≤ 2 * j + 1 ∧ R 0 = v ∧ R 1 = .string s ∧ R 5 = ov ∧ R 6 = .bool d ∧ R 7 = .int .i64 (j : Int)
theorem own_snoc {w0 w : World} {F0 F : Fz} {L : List Ch} {ov : Value} {out : List ByteArray} {x : ByteArray} (h : Hp w0 F0 F (.own ov 9 1 (out.length + 1) (rowS out ++ [.string x]) :: L) w) : Hp w0 F0 F [.own ov 9 1 (out ++ [x]).length (rowS (out ++ [x]))] w := by
  have h := h.keep 1
  have e : rowS out ++ [Value.string x] = rowS (out ++ [x]) := by simp [rowS]
  have e2 : out.length + 1 = (out ++ [x]).length := by simp
  rw [e, e2] at h
  exact h
set_option maxHeartbeats 2000000 in
theorem l7Put_calls (F : Fz) (w0 : World) (hF : Sub F (hv w0)) (v : Value) (ss : List ByteArray) (s : ByteArray) (hr : FRow F v ss.length 1 (rowS ss)) (hl : ss.length ≤ 1048576) : Calls Tryz.prog 41 #[v, .string s] w0 (PRow F w0 (putB s ss false)) := by
  refine calls 49 Tryz.func41 rfl rfl rfl ?_
  have h := Hp.start hF
  refine W.seq (W.region rfl ?_)
  refine WL.p h Val.as ?_
  refine WL.nil ?_
  refine W.seq (W.region rfl ?_)
  refine WL.bs0 h Tryz.underlying41 T9 (fun b9 w h => ?_)
  refine WL.p h Val.as ?_
  refine WL.nil ?_
  refine W.seq (W.region rfl ?_)
  refine WL.p h Val.as ?_
  refine WL.nil ?_
  refine W.seq (W.seq (W.region rfl ?_))
  refine WL.p h Val.as ?_
  refine WL.nil ?_
  refine W.block ?_
  refine W.loop (fun m R w => ∃ j, m + j = ss.length ∧ lpI w0 F v s ss j R w) ss.length ⟨0, by omega, [], false, _, h, rfl, by simp, rfl, rfl, rfl, rfl, rfl⟩ (fun m R w hI => ?_)
  clear h
  obtain ⟨j, hm, out, d, ov, h, hout, hol, h0, h1, h5, h6, h7⟩ := hI
  refine W.seq (W.seq (W.region rfl ?_))
  refine WL.p h Val.mv ?_
  refine WL.p h Val.mv ?_
  refine WL.p h (Val.len Tryz.underlying41 h0 hr.val) ?_
  refine WL.p h (Val.lt h7 rfl) ?_
  refine WL.dec (fun c1 => ?_) (fun c1 => ?_)
  · obtain ⟨x, hx⟩ : ∃ x, ss[j]? = some x := ⟨_, List.getElem?_eq_getElem (by omega)⟩
    have hdrop : ss.drop j = x :: ss.drop (j + 1) := by
      obtain ⟨l1, e1⟩ := List.getElem?_eq_some_iff.1 hx
      rw [List.drop_eq_getElem_cons l1, e1]
    rw [hdrop, putB_cons] at hout
    refine WL.nil ?_
    refine W.condT rfl ?_
    refine W.skip ?_
    refine W.seq (W.block ?_)
    refine W.cut (fun R w => lpJ w0 F v s ss j x R w) ?_ ?_
    · refine W.seq (W.region rfl ?_)
      refine WL.p h Val.mv ?_
      refine WL.p h (Val.not h6) ?_
      refine WL.p h Val.mv ?_
      cases d with
      | true =>
        refine WL.no rfl (WL.no rfl (WL.no rfl (WL.no rfl (WL.no rfl (WL.no rfl (?_))))))
        refine WL.p h (Val.pick rfl) ?_
        refine WL.nil ?_
        refine W.condF rfl ?_
        refine W.skip ?_
        exact ⟨out, true, ov, h, by simpa using hout, by omega, h0, h1, h5, h6, h7⟩
      | false =>
        refine WL.p h Val.mv ?_
        refine WL.p h Val.mv ?_
        refine WL.p h (Val.ix (i := j) Tryz.underlying41 T9 h0 h7 (hr.slice (by omega)) (by omega)) ?_
        refine WL.p h (Val.ldR A9 hr rfl (rowS_get hx)) ?_
        refine WL.p h Val.mv ?_
        refine WL.p h (Val.strGe (a := x) (b := s) rfl h1) ?_
        refine WL.decB (fun c2 => ?_) (fun c2 => ?_)
        · have hc : ¬ ltN x s := fun e => by unfold ltN at e; rw [e] at c2; cases c2
          have hout' : (out ++ [s]) ++ ((if x ≠ s then [x] else []) ++ putB s (ss.drop (j + 1)) true) = putB s ss false := by simpa [hc] using hout
          refine WL.p h (Val.pick rfl) ?_
          refine WL.nil ?_
          refine W.condT rfl ?_
          refine W.seq (W.region rfl ?_)
          refine WL.p h Val.mv ?_
          refine WL.p h Val.mv ?_
          refine WL.bs1 h Tryz.underlying41 T9 (by decide) (cs := [.string s]) (congrArg Value.cells h1) rfl (fun b8 w h => ?_)
          refine WL.app 0 h rfl Tryz.underlying41 T9 (by decide) h5 rfl (news := [.string s]) rfl (box_news h (i := 1) rfl) (by simp [Value.oneCell']) (by omega) (by omega) (fun ov' w h => ?_)
          refine WL.p h Val.as ?_
          refine WL.nil ?_
          refine W.region rfl ?_
          refine WL.p h Val.as ?_
          refine WL.nil ?_
          exact ⟨out ++ [s], true, ov', own_snoc h, hout', by simp; omega, h0, h1, rfl, rfl, h7⟩
        · have hc : ltN x s := by unfold ltN; cases hb : Op.bytesLess x.toList s.toList; rw [hb] at c2; cases c2; rfl
          have hout' : out ++ ((if x ≠ s then [x] else []) ++ putB s (ss.drop (j + 1)) false) = putB s ss false := by simpa [hc] using hout
          refine WL.p h (Val.pick rfl) ?_
          refine WL.nil ?_
          refine W.condF rfl ?_
          refine W.skip ?_
          exact ⟨out, false, ov, h, hout', by omega, h0, h1, h5, h6, h7⟩
    clear h hout hol h0 h1 h5 h6 h7
    rintro R w ⟨out, d, ov, h, hout, hol, h0, h1, h5, h6, h7⟩
    refine W.seq (W.region rfl ?_)
    refine WL.p h Val.mv ?_
    refine WL.p h Val.mv ?_
    refine WL.p h (Val.ix (i := j) Tryz.underlying41 T9 h0 h7 (hr.slice (by omega)) (by omega)) ?_
    refine WL.p h (Val.ldR A9 hr rfl (rowS_get hx)) ?_
    refine WL.p h Val.mv ?_
    refine WL.p h (Val.sNe (a := x) (b := s) rfl h1) ?_
    refine WL.dec (fun c3 => ?_) (fun c3 => ?_)
    · have hout' : (out ++ [x]) ++ putB s (ss.drop (j + 1)) d = putB s ss false := by simpa [c3] using hout
      refine WL.nil ?_
      refine W.condT rfl ?_
      refine W.region rfl ?_
      refine WL.p h Val.mv ?_
      refine WL.p h Val.mv ?_
      refine WL.p h Val.mv ?_
      refine WL.p h (Val.ix (i := j) Tryz.underlying41 T9 h0 h7 (hr.slice (by omega)) (by omega)) ?_
      refine WL.p h (Val.ldR A9 hr rfl (rowS_get hx)) ?_
      refine WL.bs1 h Tryz.underlying41 T9 (by decide) (cs := [.string x]) rfl rfl (fun b8 w h => ?_)
      refine WL.app 0 h rfl Tryz.underlying41 T9 (by decide) h5 rfl (news := [.string x]) rfl (box_news h (i := 1) rfl) (by simp [Value.oneCell']) (by omega) (by omega) (fun ov' w h => ?_)
      refine WL.p h Val.as ?_
      refine WL.nil ?_
      refine W.region rfl ?_
      refine WL.p h Val.mv ?_
      refine WL.p h (Val.addi (c := ((j + 1 : Nat) : Int)) h7 rfl (by omega)) ?_
      refine WL.p h Val.as ?_
      refine WL.nil ?_
      exact ⟨m - 1, by omega, j + 1, by omega, out ++ [x], d, ov', own_snoc h, hout', by simp; omega, h0, h1, rfl, h6, rfl⟩
    · have hout' : out ++ putB s (ss.drop (j + 1)) d = putB s ss false := by simpa [c3] using hout
      refine WL.nil ?_
      refine W.condF rfl ?_
      refine W.skip ?_
      refine W.region rfl ?_
      refine WL.p h Val.mv ?_
      refine WL.p h (Val.addi (c := ((j + 1 : Nat) : Int)) h7 rfl (by omega)) ?_
      refine WL.p h Val.as ?_
      refine WL.nil ?_
      exact ⟨m - 1, by omega, j + 1, by omega, out, d, ov, h, hout', by omega, h0, h1, h5, h6, rfl⟩
  · have hj : ss.length ≤ j := by omega
    rw [List.drop_eq_nil_of_le hj, putB_nil] at hout
    refine WL.nil ?_
    refine W.condF rfl ?_
    refine W.exit ?_
    refine W.seq (W.seq (W.region rfl ?_))
    refine WL.p h Val.mv ?_
    refine WL.p h (Val.not h6) ?_
    cases d with
    | true =>
      have hout' : out = putB s ss false := by simpa using hout
      refine WL.nil ?_
      refine W.condF rfl ?_
      refine W.skip ?_
      refine W.seq (W.region rfl ?_)
      refine WL.p h Val.mv ?_
      refine WL.p h Val.as ?_
      refine WL.nil ?_
      refine W.ret ?_
      obtain ⟨F', hs', h', hrow⟩ := h.freezeRow 0 rfl
      rw [hout'] at hrow
      exact fin1 (v := ov) rfl h5 ⟨F', ov, rfl, h'.toExt, hrow⟩
    | false =>
      have hout' : out ++ [s] = putB s ss false := by simpa using hout
      refine WL.nil ?_
      refine W.condT rfl ?_
      refine W.region rfl ?_
      refine WL.p h Val.mv ?_
      refine WL.p h Val.mv ?_
      refine WL.bs1 h Tryz.underlying41 T9 (by decide) (cs := [.string s]) (congrArg Value.cells h1) rfl (fun b8 w h => ?_)
      refine WL.app 0 h rfl Tryz.underlying41 T9 (by decide) h5 rfl (news := [.string s]) rfl (box_news h (i := 1) rfl) (by simp [Value.oneCell']) (by omega) (by omega) (fun ov' w h => ?_)
      refine WL.p h Val.as ?_
      refine WL.nil ?_
      have h := own_snoc h
      refine W.seq (W.region rfl ?_)
      refine WL.p h Val.mv ?_
      refine WL.p h Val.as ?_
      refine WL.nil ?_
      refine W.ret ?_
      obtain ⟨F', hs', h', hrow⟩ := h.freezeRow 0 rfl
      rw [hout'] at hrow
      exact fin1 (v := ov') rfl rfl ⟨F', ov', rfl, h'.toExt, hrow⟩
end Go.Proofs.YtmiihhbgfijcmaaGreat.K


/- Targets: the reference's sorting of a list, walked. -/
namespace Go.Proofs.YtmiihhbgfijcmaaGreat.K
open Go Go.RowKit
set_option linter.unusedVariables false
set_option linter.unusedSimpArgs false
set_option maxRecDepth 20000
def sortedL (ss : List ByteArray) : List ByteArray := ss.foldl (fun out s => putB s out false) []
theorem unit_keys : ∀ (A : AL Unit), unitL (keysM A) = A
  | [] => rfl
  | (x, ()) :: A => by have := unit_keys A; simp only [unitL, keysM, List.map_cons, List.map_map] at this ⊢; rw [this]
theorem keys_unit (ss : List ByteArray) : keysM (unitL ss) = ss := by simp [keysM, unitL, Function.comp_def]
theorem putB_step (s : ByteArray) (out : List ByteArray) : (putB s out false).length ≤ out.length + 1 := by
  have := setA_len s () (unitL out)
  simp only [putB, keysM, List.length_map]
  simpa [unitL] using this
theorem sortedL_unit : ∀ (ss : List ByteArray) (out : List ByteArray), unitL (ss.foldl (fun out s => putB s out false) out) = setAll (unitL out) (unitL ss)
  | [], out => rfl
  | s :: ss, out => by
    have := sortedL_unit ss (putB s out false)
    rw [List.foldl_cons, this, putB, unit_keys]
    rfl
theorem sortedL_sort {ss : List ByteArray} (hn : ss.Nodup) : sortedL ss = sortB ss := by
  have e : sortedL ss = keysM (setAll [] (unitL ss)) := by
    rw [← keys_unit (sortedL ss)]
    exact congrArg keysM (sortedL_unit ss [])
  have hu : updAll [] (unitL ss) = unitL ss := updAll_self _ (by rw [keys_unit]; exact hn)
  have hmem := same_mem (unitL ss) [] [] (by simp [Sorted]) (by simp [keysM]) (fun n x => Iff.rfl)
  have hnd : (keysM (updAll [] (unitL ss))).Nodup := by rw [hu, keys_unit]; exact hn
  have := (sortB_sorted (z := ()) (setAll_sorted (unitL ss) [] (by simp [Sorted])) hnd hmem).1
  rw [hu, keys_unit] at this
  rw [e, this]
theorem fold_len (ss : List ByteArray) : ∀ j, ((ss.take j).foldl (fun out s => putB s out false) []).length ≤ j
  | 0 => by simp
  | j + 1 => by
    have ih := fold_len ss j
    by_cases hj : j < ss.length
    · rw [List.take_succ_eq_append_getElem hj, List.foldl_append]
      simp only [List.foldl_cons, List.foldl_nil]
      have := putB_step ss[j] ((ss.take j).foldl (fun out s => putB s out false) [])
      omega
    · rw [List.take_of_length_le (by omega), ← List.take_of_length_le (show ss.length ≤ j by omega)]
      omega
theorem l9Sorted_calls (F : Fz) (w0 : World) (hF : Sub F (hv w0)) (v : Value) (ss : List ByteArray) (hr : FRow F v ss.length 1 (rowS ss)) (hl : ss.length ≤ 1048576) : Calls Tryz.prog 18 #[v] w0 (PRow F w0 (sortedL ss)) := by
  refine calls 19 Tryz.func18 rfl rfl rfl ?_
  have h := Hp.start hF
  refine W.seq (W.region rfl ?_)
  refine WL.p h Val.as ?_
  refine WL.nil ?_
  refine W.seq (W.region rfl ?_)
  refine WL.bs0 h Tryz.underlying41 T9 (fun b9 w h => ?_)
  refine WL.p h Val.as ?_
  refine WL.nil ?_
  have h0 := h.freezeRow 0 rfl
  obtain ⟨F1, hs1, h, hrow⟩ := h0
  refine W.seq (W.seq (W.region rfl ?_))
  refine WL.p h Val.as ?_
  refine WL.nil ?_
  refine W.block ?_
  refine W.loop (fun m R w => ∃ j F' ov, m + j = ss.length ∧ Sub F F' ∧ Hp w0 F F' [.dead] w ∧ FRow F' ov ((ss.take j).foldl (fun out s => putB s out false) []).length 1 (rowS ((ss.take j).foldl (fun out s => putB s out false) [])) ∧ R 0 = v ∧ R 3 = ov ∧ R 4 = .int .i64 (j : Int)) ss.length ⟨0, F1, _, by omega, hs1, h, hrow, rfl, rfl, rfl⟩ (fun m R w hI => ?_)
  clear h hrow
  obtain ⟨j, F', ov, hm, hs, h, hrow, h0, h3, h4⟩ := hI
  refine W.seq (W.seq (W.region rfl ?_))
  refine WL.p h Val.mv ?_
  refine WL.p h Val.mv ?_
  refine WL.p h (Val.len Tryz.underlying41 h0 hr.val) ?_
  refine WL.p h (Val.lt h4 rfl) ?_
  refine WL.dec (fun c1 => ?_) (fun c1 => ?_)
  · obtain ⟨x, hx⟩ : ∃ x, ss[j]? = some x := ⟨_, List.getElem?_eq_getElem (by omega)⟩
    have hfl := fold_len ss j
    have hst : (ss.take (j + 1)).foldl (fun out s => putB s out false) [] = putB x ((ss.take j).foldl (fun out s => putB s out false) []) false := by
      obtain ⟨l1, e1⟩ := List.getElem?_eq_some_iff.1 hx
      rw [List.take_succ_eq_append_getElem l1, List.foldl_append, e1]; rfl
    refine WL.nil ?_
    refine W.condT rfl ?_
    refine W.skip ?_
    refine W.seq (W.block ?_)
    refine W.region rfl ?_
    refine WL.p h Val.mv ?_
    refine WL.p h Val.mv ?_
    refine WL.p h Val.mv ?_
    refine WL.p h (Val.ix (i := j) Tryz.underlying41 T9 h0 h4 (hr.slice (by omega)) (by omega)) ?_
    refine WL.p h (Val.ldR A9 (hr.mono hs) rfl (rowS_get hx)) ?_
    refine WL.call C41z (args := [ov, .string x]) (congrArg (fun y => [y, Value.string x]) h3) ((l7Put_calls F' _ h.sub ov _ x hrow (by omega)).mono ?_)
    rintro e w' ⟨F2, ov2, rfl, hE, hrow2⟩
    have h := h.call hE
    have hs2 := hs.trans hE.ext
    rw [← hst] at hrow2
    refine ⟨_, rfl, ?_⟩
    refine WL.p h Val.as ?_
    refine WL.nil ?_
    refine W.region rfl ?_
    refine WL.p h Val.mv ?_
    refine WL.p h (Val.addi (c := ((j + 1 : Nat) : Int)) h4 rfl (by omega)) ?_
    refine WL.p h Val.as ?_
    refine WL.nil ?_
    exact ⟨m - 1, by omega, j + 1, F2, ov2, by omega, hs2, h, hrow2, h0, rfl, rfl⟩
  · rw [List.take_of_length_le (show ss.length ≤ j by omega)] at hrow
    refine WL.nil ?_
    refine W.condF rfl ?_
    refine W.exit ?_
    refine W.seq (W.region rfl ?_)
    refine WL.p h Val.mv ?_
    refine WL.p h Val.as ?_
    refine WL.nil ?_
    refine W.ret ?_
    exact fin1 (v := ov) rfl h3 ⟨F', ov, rfl, h.toExt, hrow⟩
end Go.Proofs.YtmiihhbgfijcmaaGreat.K


/- Targets: the reference's text of a record, walked. -/
namespace Go.Proofs.YtmiihhbgfijcmaaGreat.K
open Go Go.RowKit
set_option linter.unusedVariables false
set_option linter.unusedSimpArgs false
set_option maxRecDepth 20000
def textA (ks : List T) (name : ByteArray) (need : Bool) : ByteArray × Bool := match getT ks name with
  | none => (⟨#[]⟩, !need)
  | some x => (x.atom.t, decide (x.atom.k = 4) && (!need || decide (x.atom.t ≠ ⟨#[]⟩)))
def PTx (F : Fz) (w0 : World) (p : ByteArray × Bool) (e : Ending) (w : World) : Prop := e = .returned (.tuple #[.string p.1, .bool p.2]) ∧ Ext F w0 F w
set_option maxHeartbeats 2000000 in
theorem l9Text_calls (F : Fz) (w0 : World) (hF : Sub F (hv w0)) (v : Value) (t : T) (q : Nat) (ht : t.Wf) (hr : FRow F v t.enc.length 4 (rowA t.enc)) (hB : t.enc.length ≤ 1048576) (hq : t.kids.length = 2 * q) (name : ByteArray) (need : Bool) : Calls Tryz.prog 39 #[.agg #[v], .string name, .bool need] w0 (PTx F w0 (textA t.kids name need)) := by
  refine calls 36 Tryz.func39 rfl rfl rfl ?_
  have h := Hp.start hF
  refine W.seq (W.region rfl ?_)
  refine WL.box h rfl (fun b3 w h => ?_)
  refine WL.p h Val.as ?_
  refine WL.p h Val.as ?_
  refine WL.nil ?_
  refine W.seq (W.region rfl ?_)
  refine WL.p h (Val.ldS 0 A42 T42 rfl rfl rfl) ?_
  refine WL.p h Val.mv ?_
  refine WL.call C84 (args := [.agg #[v], .string name]) rfl ((l5Get_calls F _ h.sub v t q ht hr hB hq name).mono ?_)
  rintro e w' ⟨F2, sg, b, rfl, hE, hsg, hb, hrow⟩
  have h := h.call hE
  refine ⟨_, rfl, ?_⟩
  refine WL.p h Val.mv ?_
  refine WL.p h (Val.ext (v := .agg #[sg]) rfl rfl) ?_
  refine WL.p h (Val.ext (v := .bool b) rfl rfl) ?_
  refine WL.alloc h T42 (fun b8 w h => ?_)
  refine WL.stS 1 h rfl T42 rfl (vs := [sg]) rfl (one1 hsg) rfl rfl (fun w h => ?_)
  refine WL.p h Val.as ?_
  refine WL.nil ?_
  refine W.seq (W.seq (W.region rfl ?_))
  refine WL.p h Val.mv ?_
  refine WL.p h (Val.not rfl) ?_
  cases hg : getT t.kids name with
  | none =>
    rw [hg] at hb
    obtain rfl : b = false := hb
    refine WL.nil ?_
    refine W.condT rfl ?_
    refine W.seq (W.region rfl ?_)
    refine WL.p h Val.mv ?_
    refine WL.p h (Val.not rfl) ?_
    refine WL.p h Val.as ?_
    refine WL.p h Val.as ?_
    refine WL.nil ?_
    refine W.ret ?_
    exact fin2 (v := .string ⟨#[]⟩) (x := .bool (!need)) rfl rfl rfl ⟨by rw [textA, hg], h.toExt.forget⟩
  | some x =>
    rw [hg] at hb
    obtain rfl : b = true := hb
    have hrx := hrow x hg
    refine WL.nil ?_
    refine W.condF rfl ?_
    refine W.skip ?_
    refine W.seq (W.draw (fun w => Hp w0 F F2 [.box b3 [v] 45, .box b8 [sg] 45] w) [17] 18 (by kernel_rfl) rfl rfl ?_)
    have hS := h.drewN 1
    refine WD.take 0 rfl (by kernel_rfl) (fun _ _ _ h => fin_panic h) hS (Val.ldS 1 A42 T42 rfl rfl rfl) ?_
    refine WD.take 3 rfl (by kernel_rfl) (fun _ _ _ h => fin_panic h) hS (Val.ldS 1 A42 T42 rfl rfl rfl) ?_
    refine WD.one 1 rfl (by kernel_rfl) ?_
    refine WL.call C48 (args := [.agg #[sg]]) rfl ((l5Last_calls F2 _ hS.sub sg x.enc hrx x.atom (enc_last x)).mono ?_)
    rintro e w' ⟨rfl, hE⟩
    have hS := hS.call hE
    refine ⟨_, rfl, ?_⟩
    refine WL.nil ?_
    refine ⟨hS, ?_⟩
    refine WD.take 2 rfl (by kernel_rfl) (fun _ _ _ h => fin_panic h) hS (Val.fld E79_2 rfl rfl) ?_
    refine WD.one 4 rfl (by kernel_rfl) ?_
    refine WL.call C46 (args := [.agg #[sg]]) rfl ((l6Kind_calls F2 _ hS.sub sg x.enc hrx x.atom (enc_last x)).mono ?_)
    rintro e w' ⟨rfl, hE⟩
    have hS := hS.call hE
    refine ⟨_, rfl, ?_⟩
    refine WL.nil ?_
    refine ⟨hS, ?_⟩
    refine WD.take 5 rfl (by kernel_rfl) (fun _ _ _ h => fin_panic h) hS (Val.eq (a := x.atom.k) (b := 4) rfl rfl) ?_
    refine WD.dec (fun k4 => ?_) (fun k4 => ?_)
    · refine WD.take 6 rfl (by kernel_rfl) (fun _ _ _ h => fin_panic h) hS Val.mv ?_
      cases need with
      | true =>
        refine WD.take 7 rfl (by kernel_rfl) (fun _ _ _ h => fin_panic h) hS Val.mv ?_
        refine WD.take 8 rfl (by kernel_rfl) (fun _ _ _ h => fin_panic h) hS (Val.not rfl) ?_
        refine WD.take 9 rfl (by kernel_rfl) (fun _ _ _ h => fin_panic h) hS Val.mv ?_
        refine WD.take 10 rfl (by kernel_rfl) (fun _ _ _ h => fin_panic h) hS (Val.ldS 1 A42 T42 rfl rfl rfl) ?_
        refine WD.one 11 rfl (by kernel_rfl) ?_
        refine WL.call C48 (args := [.agg #[sg]]) rfl ((l5Last_calls F2 _ hS.sub sg x.enc hrx x.atom (enc_last x)).mono ?_)
        rintro e w' ⟨rfl, hE⟩
        have hS := hS.call hE
        refine ⟨_, rfl, ?_⟩
        refine WL.nil ?_
        refine ⟨hS, ?_⟩
        refine WD.take 12 rfl (by kernel_rfl) (fun _ _ _ h => fin_panic h) hS (Val.fld E79_2 rfl rfl) ?_
        refine WD.take 13 rfl (by kernel_rfl) (fun _ _ _ h => fin_panic h) hS (Val.sNe (a := x.atom.t) (b := ⟨#[]⟩) rfl rfl) ?_
        refine WD.dec (fun c => ?_) (fun c => ?_)
        · refine WD.take 14 rfl (by kernel_rfl) (fun _ _ _ h => fin_panic h) hS (Val.pick rfl) ?_
          refine WD.take 15 rfl (by kernel_rfl) (fun _ _ _ h => fin_panic h) hS (Val.pick rfl) ?_
          refine WD.take 16 rfl (by kernel_rfl) (fun _ _ _ h => fin_panic h) hS Val.as ?_
          have h := hS
          refine WD.last 17 rfl (by kernel_rfl) rfl ?_
          refine WL.p h Val.as ?_
          refine WL.nil ?_
          refine WD.nil (by kernel_rfl) ?_
          refine W.ret ?_
          exact fin2 (v := .string x.atom.t) (x := .bool true) rfl rfl rfl ⟨by rw [textA, hg]; simp [k4, c], h.toExt.forget⟩
        · refine WD.take 14 rfl (by kernel_rfl) (fun _ _ _ h => fin_panic h) hS (Val.pick rfl) ?_
          refine WD.take 15 rfl (by kernel_rfl) (fun _ _ _ h => fin_panic h) hS (Val.pick rfl) ?_
          refine WD.take 16 rfl (by kernel_rfl) (fun _ _ _ h => fin_panic h) hS Val.as ?_
          have h := hS
          refine WD.last 17 rfl (by kernel_rfl) rfl ?_
          refine WL.p h Val.as ?_
          refine WL.nil ?_
          refine WD.nil (by kernel_rfl) ?_
          refine W.ret ?_
          exact fin2 (v := .string x.atom.t) (x := .bool false) rfl rfl rfl ⟨by rw [textA, hg]; simp [k4, Decidable.not_not.1 c], h.toExt.forget⟩
      | false =>
        refine WD.take 7 rfl (by kernel_rfl) (fun _ _ _ h => fin_panic h) hS Val.mv ?_
        refine WD.take 8 rfl (by kernel_rfl) (fun _ _ _ h => fin_panic h) hS (Val.not rfl) ?_
        refine WD.take 9 rfl (by kernel_rfl) (fun _ _ _ h => fin_panic h) hS Val.mv ?_
        refine WD.skip 10 rfl (by kernel_rfl) (fun _ _ _ h => fin_panic h) hS rfl ?_
        refine WD.skip 11 rfl (by kernel_rfl) (fun _ _ _ h => fin_panic h) hS rfl ?_
        refine WD.skip 12 rfl (by kernel_rfl) (fun _ _ _ h => fin_panic h) hS rfl ?_
        refine WD.skip 13 rfl (by kernel_rfl) (fun _ _ _ h => fin_panic h) hS rfl ?_
        refine WD.take 14 rfl (by kernel_rfl) (fun _ _ _ h => fin_panic h) hS (Val.pick rfl) ?_
        refine WD.take 15 rfl (by kernel_rfl) (fun _ _ _ h => fin_panic h) hS (Val.pick rfl) ?_
        refine WD.take 16 rfl (by kernel_rfl) (fun _ _ _ h => fin_panic h) hS Val.as ?_
        have h := hS
        refine WD.last 17 rfl (by kernel_rfl) rfl ?_
        refine WL.p h Val.as ?_
        refine WL.nil ?_
        refine WD.nil (by kernel_rfl) ?_
        refine W.ret ?_
        exact fin2 (v := .string x.atom.t) (x := .bool true) rfl rfl rfl ⟨by rw [textA, hg]; simp [k4], h.toExt.forget⟩
    · refine WD.take 6 rfl (by kernel_rfl) (fun _ _ _ h => fin_panic h) hS Val.mv ?_
      refine WD.skip 7 rfl (by kernel_rfl) (fun _ _ _ h => fin_panic h) hS rfl ?_
      refine WD.skip 8 rfl (by kernel_rfl) (fun _ _ _ h => fin_panic h) hS rfl ?_
      refine WD.skip 9 rfl (by kernel_rfl) (fun _ _ _ h => fin_panic h) hS rfl ?_
      refine WD.skip 10 rfl (by kernel_rfl) (fun _ _ _ h => fin_panic h) hS rfl ?_
      refine WD.skip 11 rfl (by kernel_rfl) (fun _ _ _ h => fin_panic h) hS rfl ?_
      refine WD.skip 12 rfl (by kernel_rfl) (fun _ _ _ h => fin_panic h) hS rfl ?_
      refine WD.skip 13 rfl (by kernel_rfl) (fun _ _ _ h => fin_panic h) hS rfl ?_
      refine WD.skip 14 rfl (by kernel_rfl) (fun _ _ _ h => fin_panic h) hS rfl ?_
      refine WD.take 15 rfl (by kernel_rfl) (fun _ _ _ h => fin_panic h) hS (Val.pick rfl) ?_
      refine WD.take 16 rfl (by kernel_rfl) (fun _ _ _ h => fin_panic h) hS Val.as ?_
      have h := hS
      refine WD.last 17 rfl (by kernel_rfl) rfl ?_
      refine WL.p h Val.as ?_
      refine WL.nil ?_
      refine WD.nil (by kernel_rfl) ?_
      refine W.ret ?_
      exact fin2 (v := .string x.atom.t) (x := .bool false) rfl rfl rfl ⟨by rw [textA, hg]; simp [k4], h.toExt.forget⟩
end Go.Proofs.YtmiihhbgfijcmaaGreat.K


