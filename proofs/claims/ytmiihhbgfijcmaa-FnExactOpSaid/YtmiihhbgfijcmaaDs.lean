/- l5Set: a name is set in the kids of a record; told loosely. -/
import Derived.Test.YtmiihhbgfijcmaaDk
namespace Go.Proofs.Ytmiihhbgfijcmaa.K
open Go Go.RowKit
set_option linter.unusedVariables false
set_option linter.unusedSimpArgs false
set_option maxRecDepth 20000
section
variable {P : Program} {R : Regs} {w0 : World} {F0 F : Fz} {L : List Ch} {d : Option Nat} {ty : TypeId} {pos : String} {af : Array Edge} {g : Option (Nat × Bool)}
variable {n : Nat} {ops : Array Oper} {Q : Post} {w : World} {rest : List Oper}
/-- A composite literal of two elements of one cell each. -/
theorem WL.bs2c {T e bytes : Nat} {z u v : Value} {x y : Operand} (h : Hp w0 F0 F L w) (ht : P.underlying T = some (.slice e)) (hT : TI P e z 1 bytes) (hu : (ev R x).cells = #[u]) (hv : (ev R y).cells = #[v])
    (k : ∀ b w', Hp w0 F0 F (L ++ [.box b [u, v] e]) w' → WL P n ops Q rest (updO R d (.slice (some ⟨b, 0, none⟩) 2 2)) w') (hw : wantB ops R g = true := by rfl) : WL P n ops Q (⟨d, .buildSlice T 2 #[(0, x), (1, y)], ty, pos, af, g⟩ :: rest) R w := by
  refine WL.val (v := .slice (some ⟨w.heap.size, 0, none⟩) 2 2) (w' := w.alloc (.cells #[u, v] e)) hw ?_ (k _ _ (h.alloc [u, v] e))
  have hz : z.cells.size = 1 := hT.zs
  have hr : (Array.range (2 * 1)).map (fun i => z.cells[i % z.cells.size]!) = #[z.cells[0]!, z.cells[0]!] := by
    have : Array.range (2 * 1) = #[0, 1] := rfl
    rw [this]
    simp [hz]
  simp only [execOp, Instr.buildSlice, Sem.run_bind, run_underlying ht, Result.andThen_ok, hT.sizeOf w, hT.zero w, Sem.run_pure, List.map_toArray, List.map_cons, List.map_nil, hr]
  have h24 : ¬ (2 * 1 > 2 ^ 24) := by omega
  have h1 : ¬ (2 * 1 = 0) := by omega
  simp only [if_neg h24, if_neg h1, Sem.run_pure, Sem.run_bind, Result.andThen_ok, hT.zero w, hr]
  simp [Instr.fill, hu, hv, newRow]
end
def stI (w0 : World) (F : Fz) (kv s : Value) (name : ByteArray) (B b5 : Nat) (j : Nat) (R : Regs) (w : World) : Prop :=
  ∃ (F' : Fz) (ov : Value) (oss : List Value) (oess : List (List At)) (q' : Nat) (done : Bool), Sub F F' ∧ Hp w0 F F' [.box b5 [s] 42, .own ov 42 1 oess.length oss] w ∧ KR F' oss oess ∧ KB oess B ∧ oess.length = 2 * q' ∧ q' ≤ j + (bif done then 1 else 0) ∧
    R 0 = kv ∧ R 1 = .string name ∧ R 5 = pt b5 ∧ R 7 = ov ∧ R 8 = .bool done
def PSet (F : Fz) (w0 : World) (q B : Nat) (e : Ending) (w : World) : Prop :=
  ∃ (F' : Fz) (kv : Value) (ss : List Value) (ess : List (List At)) (q' : Nat), e = .returned kv ∧ Ext F w0 F' w ∧ FRow F' kv ess.length 1 ss ∧ KR F' ss ess ∧ ess.length = 2 * q' ∧ q' ≤ q + 1 ∧ KB ess B
theorem two_one {u v : Value} (hu : u.oneCell' = true) (hv : v.oneCell' = true) : ∀ x ∈ [u, v], x.oneCell' = true := by simp [hu, hv]
set_option maxHeartbeats 2000000 in
theorem l5Set_calls (F : Fz) (w0 : World) (hF : Sub F (hv w0)) (kv : Value) (ss : List Value) (ess : List (List At)) (q B : Nat) (hlen : ess.length = 2 * q) (hq : q ≤ 1000) (hrow : FRow F kv ess.length 1 ss) (hk : KR F ss ess) (hb : KB ess B) (hB1 : 1 ≤ B) (name : ByteArray) (s : Value) (es : List At) (hs : FRow F s es.length 4 (rowA es)) (hes : es ≠ [] ∧ es.length ≤ B) :
    Calls Try.prog 88 #[kv, .string name, .agg #[s]] w0 (PSet F w0 q B) := by
  refine calls 61 Try.func88 rfl rfl rfl ?_
  have h := Hp.start hF
  refine W.seq (W.region rfl ?_)
  refine WL.box h rfl (fun b5 w h => ?_)
  refine WL.p h Val.as ?_
  refine WL.nil ?_
  refine W.seq (W.region rfl ?_)
  refine WL.bs0 h Try.underlying102 T42 (fun b6 w h => ?_)
  refine WL.p h Val.as ?_
  refine WL.nil ?_
  refine W.seq (W.region rfl ?_)
  refine WL.p h Val.as ?_
  refine WL.nil ?_
  refine W.seq (W.seq (W.region rfl ?_))
  refine WL.p h Val.as ?_
  refine WL.nil ?_
  refine W.block ?_
  refine W.loop (fun m R w => ∃ j, m + j = q ∧ stI w0 F kv s name B b5 j R w ∧ R 9 = .int .i64 ((2 * j : Nat) : Int)) q ?_ (fun m R w hI => ?_)
  · exact ⟨0, by omega, ⟨F, _, [], [], 0, false, Sub.refl _, h, KR.nil, KB.nil, rfl, by simp, rfl, rfl, rfl, rfl, rfl⟩, rfl⟩
  clear h
  obtain ⟨j, hm, ⟨F', ov, oss, oess, q', done, hs1, h, hko, hbo, hlo, hqo, h0, h1, h5, h7, h8⟩, h9⟩ := hI
  refine W.seq (W.seq (W.region rfl ?_))
  refine WL.p h Val.mv ?_
  refine WL.p h Val.mv ?_
  refine WL.p h (Val.len Try.underlying102 h0 hrow.val) ?_
  refine WL.p h (Val.lt h9 rfl) ?_
  refine WL.dec (fun c1 => ?_) (fun c1 => ?_)
  · obtain ⟨e1, he1⟩ : ∃ e1, ess[2 * j]? = some e1 := ⟨_, List.getElem?_eq_getElem (by omega)⟩
    obtain ⟨e2, he2⟩ : ∃ e2, ess[2 * j + 1]? = some e2 := ⟨_, List.getElem?_eq_getElem (by omega)⟩
    obtain ⟨s1, hs1', hr1⟩ := hk.get _ e1 he1
    obtain ⟨s2, hs2', hr2⟩ := hk.get _ e2 he2
    have hb1 := hb e1 (List.mem_of_getElem? he1)
    have hb2 := hb e2 (List.mem_of_getElem? he2)
    have hp1 := List.length_pos_iff.2 hb1.1
    obtain ⟨a, ha⟩ : ∃ a, e1[e1.length - 1]? = some a := ⟨_, List.getElem?_eq_getElem (by omega)⟩
    refine WL.nil ?_
    refine W.condT rfl ?_
    refine W.skip ?_
    refine W.seq (W.block ?_)
    have hqb : q' ≤ 1001 := by cases done <;> simp at hqo <;> omega
    refine W.seq (W.region rfl ?_)
    refine WL.p h Val.mv ?_
    refine WL.p h Val.mv ?_
    refine WL.p h (Val.ix (i := 2 * j) Try.underlying102 T42 h0 h9 (hrow.slice (by omega)) (by omega)) ?_
    refine WL.p h (Val.ldRS A42 T42 (hrow.mono hs1) rfl (cs := [s1]) rfl (one_cell hs1')) ?_
    refine WL.call C48 (args := [.agg #[s1]]) rfl ((l5Last_calls F' _ h.sub s1 e1 (hr1.mono hs1) a ha).mono ?_)
    rintro e w' ⟨rfl, hE⟩
    have h := h.call hE
    refine ⟨_, rfl, ?_⟩
    refine WL.p h (Val.fld E79_2 rfl rfl) ?_
    refine WL.p h Val.as ?_
    refine WL.nil ?_
    refine W.cut (fun R w => stI w0 F kv s name B b5 j R w ∧ R 9 = .int .i64 ((2 * j : Nat) : Int) ∧ R 10 = .string a.t) ?_ ?_
    · refine W.seq (W.region rfl ?_)
      refine WL.p h Val.mv ?_
      refine WL.p h (Val.not h8) ?_
      refine WL.p h Val.mv ?_
      cases done with
      | true =>
        refine WL.no rfl (WL.no rfl (WL.no rfl (?_)))
        refine WL.p h (Val.pick rfl) ?_
        refine WL.nil ?_
        refine W.condF rfl ?_
        refine W.skip ?_
        exact ⟨⟨F', ov, oss, oess, q', true, hs1, h, hko, hbo, hlo, hqo, h0, h1, h5, h7, h8⟩, h9, rfl⟩
      | false =>
        refine WL.p h Val.mv ?_
        refine WL.p h Val.mv ?_
        refine WL.p h (Val.strGe rfl h1) ?_
        refine WL.decB (fun c2 => ?_) (fun c2 => ?_)
        · refine WL.p h (Val.pick rfl) ?_
          refine WL.nil ?_
          refine W.condT rfl ?_
          refine W.seq (W.draw (fun w => Hp w0 F F' [.box b5 [s] 42, .own ov 42 1 oess.length oss] w) [5, 6] 7 (by kernel_rfl) rfl rfl ?_)
          have h := h.drewN 1
          have hS := h
          refine WD.take 0 rfl (by kernel_rfl) (fun _ _ _ h => fin_panic h) hS Val.mv ?_
          refine WD.take 1 rfl (by kernel_rfl) (fun _ _ _ h => fin_panic h) hS Val.mv ?_
          refine WD.take 3 rfl (by kernel_rfl) (fun _ _ _ h => fin_panic h) hS (Val.ldS 0 A42 T42 rfl h5 rfl) ?_
          refine WD.one 2 rfl (by kernel_rfl) ?_
          refine WL.call C86 (args := [.string name]) (congrArg (fun x => [x]) h1) ((l5Text_new _ name).mono ?_)
          intro e w' hp
          obtain ⟨F2, sn, rfl, hs2, h, hrn⟩ := h.takeF hp
          refine ⟨_, rfl, ?_⟩
          refine WL.nil ?_
          refine ⟨h.weak hs1 hs2, ?_⟩
          refine WD.one 4 rfl (by kernel_rfl) ?_
          refine WL.bs2c h Try.underlying102 T42 (u := sn) (v := s) rfl rfl (fun b8 w h => ?_)
          refine WL.nil ?_
          refine ⟨(h.weak hs1 hs2).keep 2, ?_⟩
          refine WD.last 5 rfl (by kernel_rfl) rfl ?_
          refine WL.app 1 h rfl Try.underlying102 T42 (by decide) h7 rfl (news := [sn, s]) rfl (box_news h (i := 2) rfl) (two_one hrn.one hs.one) (by omega) (by omega) (fun ov' w h => ?_)
          refine WL.nil ?_
          refine WD.last 6 rfl (by kernel_rfl) rfl ?_
          refine WL.p h Val.as ?_
          refine WL.nil ?_
          refine WD.nil (by kernel_rfl) ?_
          refine W.region rfl ?_
          refine WL.p h Val.as ?_
          refine WL.nil ?_
          exact ⟨⟨F2, ov', oss ++ [sn, s], oess ++ [[⟨4, 0, name, 0⟩], es], q' + 1, true, hs1.trans hs2, (h.keep 2).cast (by simp), by simpa using ((hko.mono hs2).snoc hrn).snoc (hs.mono (hs1.trans hs2)), by simpa using (hbo.snoc (es := [⟨4, 0, name, 0⟩]) (by simp) (by simpa using hB1)).snoc hes.1 hes.2, by simp [hlo]; omega, by simp at hqo ⊢; omega, h0, h1, h5, rfl, rfl⟩, h9, rfl⟩
        · refine WL.p h (Val.pick rfl) ?_
          refine WL.nil ?_
          refine W.condF rfl ?_
          refine W.skip ?_
          exact ⟨⟨F', ov, oss, oess, q', false, hs1, h, hko, hbo, hlo, hqo, h0, h1, h5, h7, h8⟩, h9, rfl⟩
    · clear h hko hbo hlo hqo h0 h1 h5 h7 h8 h9 hs1 hE hqb
      rintro R w ⟨⟨F', ov, oss, oess, q', done, hs1, h, hko, hbo, hlo, hqo, h0, h1, h5, h7, h8⟩, h9, h10⟩
      have hqb : q' ≤ 1001 := by cases done <;> simp at hqo <;> omega
      refine W.seq (W.region rfl ?_)
      refine WL.p h Val.mv ?_
      refine WL.p h Val.mv ?_
      refine WL.p h (Val.sNe h10 h1) ?_
      refine WL.dec (fun c3 => ?_) (fun c3 => ?_)
      · refine WL.nil ?_
        refine W.condT rfl ?_
        refine W.draw (fun w => Hp w0 F F' [.box b5 [s] 42, .own ov 42 1 oess.length oss] w) [11, 12] 13 (by kernel_rfl) rfl rfl ?_
        have h := h.drewN 1
        have hS := h
        refine WD.take 0 rfl (by kernel_rfl) (fun _ _ _ h => fin_panic h) hS Val.mv ?_
        refine WD.take 1 rfl (by kernel_rfl) (fun _ _ _ h => fin_panic h) hS Val.mv ?_
        refine WD.take 2 rfl (by kernel_rfl) (fun _ _ _ h => fin_panic h) hS Val.mv ?_
        refine WD.take 3 rfl (by kernel_rfl) (fun _ _ _ h => fin_panic h) hS (Val.ix (i := 2 * j) Try.underlying102 T42 h0 h9 (hrow.slice (by omega)) (by omega)) ?_
        refine WD.take 4 rfl (by kernel_rfl) (fun _ _ _ h => fin_panic h) hS (Val.ldRS A42 T42 (hrow.mono hs1) rfl (cs := [s1]) rfl (one_cell hs1')) ?_
        refine WD.take 5 rfl (by kernel_rfl) (fun _ _ _ h => fin_panic h) hS Val.mv ?_
        refine WD.take 6 rfl (by kernel_rfl) (fun _ _ _ h => fin_panic h) hS Val.mv ?_
        refine WD.take 7 rfl (by kernel_rfl) (fun _ _ _ h => fin_panic h) hS (Val.addi (c := ((2 * j + 1 : Nat) : Int)) h9 rfl (by omega)) ?_
        refine WD.take 8 rfl (by kernel_rfl) (fun _ _ _ h => fin_panic h) hS (Val.ix (i := 2 * j + 1) Try.underlying102 T42 h0 rfl (hrow.slice (by omega)) (by omega)) ?_
        refine WD.take 9 rfl (by kernel_rfl) (fun _ _ _ h => fin_panic h) hS (Val.ldRS A42 T42 (hrow.mono hs1) rfl (cs := [s2]) rfl (one_cell hs2')) ?_
        refine WD.one 10 rfl (by kernel_rfl) ?_
        refine WL.bs2c h Try.underlying102 T42 (u := s1) (v := s2) rfl rfl (fun b8 w h => ?_)
        refine WL.nil ?_
        refine ⟨h.keep 2, ?_⟩
        refine WD.last 11 rfl (by kernel_rfl) rfl ?_
        refine WL.app 1 h rfl Try.underlying102 T42 (by decide) h7 rfl (news := [s1, s2]) rfl (box_news h (i := 2) rfl) (two_one hr1.one hr2.one) (by omega) (by omega) (fun ov' w h => ?_)
        refine WL.nil ?_
        refine WD.last 12 rfl (by kernel_rfl) rfl ?_
        refine WL.p h Val.as ?_
        refine WL.nil ?_
        refine WD.nil (by kernel_rfl) ?_
        refine W.region rfl ?_
        refine WL.p h Val.mv ?_
        refine WL.p h (Val.addi (c := ((2 * (j + 1) : Nat) : Int)) h9 rfl (by omega)) ?_
        refine WL.p h Val.as ?_
        refine WL.nil ?_
        exact ⟨m - 1, by omega, j + 1, by omega, ⟨F', ov', oss ++ [s1, s2], oess ++ [e1, e2], q' + 1, done, hs1, (h.keep 2).cast (by simp), by simpa using (hko.snoc (hr1.mono hs1)).snoc (hr2.mono hs1), by simpa using (hbo.snoc hb1.1 hb1.2).snoc hb2.1 hb2.2, by simp [hlo]; omega, by omega, h0, h1, h5, rfl, h8⟩, rfl⟩
      · refine WL.nil ?_
        refine W.condF rfl ?_
        refine W.skip ?_
        refine W.region rfl ?_
        refine WL.p h Val.mv ?_
        refine WL.p h (Val.addi (c := ((2 * (j + 1) : Nat) : Int)) h9 rfl (by omega)) ?_
        refine WL.p h Val.as ?_
        refine WL.nil ?_
        exact ⟨m - 1, by omega, j + 1, by omega, ⟨F', ov, oss, oess, q', done, hs1, h, hko, hbo, hlo, by omega, h0, h1, h5, h7, h8⟩, rfl⟩
  · refine WL.nil ?_
    refine W.condF rfl ?_
    refine W.exit ?_
    have hj : j ≤ q := by omega
    have hend : ∀ {w : World} {F'' : Fz} {ov : Value} {oss : List Value} {oess : List (List At)} {q' : Nat}, Sub F F'' → Hp w0 F F'' [.box b5 [s] 42, .own ov 42 1 oess.length oss] w → KR F'' oss oess → KB oess B → oess.length = 2 * q' → q' ≤ q + 1 → PSet F w0 q B (.returned ov) w := fun hs1 h hko hbo hlo hq' => by
      obtain ⟨F3, hs3, h, hr3⟩ := h.freezeRow 1 rfl
      exact ⟨F3, _, _, _, _, rfl, h.toExt, hr3, hko.mono hs3, hlo, hq', hbo⟩
    refine W.seq (W.seq (W.region rfl ?_))
    refine WL.p h Val.mv ?_
    refine WL.p h (Val.not h8) ?_
    refine WL.nil ?_
    cases done with
    | true =>
      refine W.condF rfl ?_
      refine W.skip ?_
      refine W.seq (W.region rfl ?_)
      refine WL.p h Val.mv ?_
      refine WL.p h Val.as ?_
      refine WL.nil ?_
      refine W.ret ?_
      exact fin1 rfl h7 (hend hs1 h hko hbo hlo (by simp at hqo; omega))
    | false =>
      have hqb : q' ≤ 1001 := by simp at hqo; omega
      refine W.condT rfl ?_
      refine W.draw (fun w => Hp w0 F F' [.box b5 [s] 42, .own ov 42 1 oess.length oss] w) [5, 6] 7 (by kernel_rfl) rfl rfl ?_
      have h := h.drewN 1
      have hS := h
      refine WD.take 0 rfl (by kernel_rfl) (fun _ _ _ h => fin_panic h) hS Val.mv ?_
      refine WD.take 1 rfl (by kernel_rfl) (fun _ _ _ h => fin_panic h) hS Val.mv ?_
      refine WD.take 3 rfl (by kernel_rfl) (fun _ _ _ h => fin_panic h) hS (Val.ldS 0 A42 T42 rfl h5 rfl) ?_
      refine WD.one 2 rfl (by kernel_rfl) ?_
      refine WL.call C86 (args := [.string name]) (congrArg (fun x => [x]) h1) ((l5Text_new _ name).mono ?_)
      intro e w' hp
      obtain ⟨F2, sn, rfl, hs2, h, hrn⟩ := h.takeF hp
      refine ⟨_, rfl, ?_⟩
      refine WL.nil ?_
      refine ⟨h.weak hs1 hs2, ?_⟩
      refine WD.one 4 rfl (by kernel_rfl) ?_
      refine WL.bs2c h Try.underlying102 T42 (u := sn) (v := s) rfl rfl (fun b8 w h => ?_)
      refine WL.nil ?_
      refine ⟨(h.weak hs1 hs2).keep 2, ?_⟩
      refine WD.last 5 rfl (by kernel_rfl) rfl ?_
      refine WL.app 1 h rfl Try.underlying102 T42 (by decide) h7 rfl (news := [sn, s]) rfl (box_news h (i := 2) rfl) (two_one hrn.one hs.one) (by omega) (by omega) (fun ov' w h => ?_)
      refine WL.nil ?_
      refine WD.last 6 rfl (by kernel_rfl) rfl ?_
      refine WL.p h Val.as ?_
      refine WL.nil ?_
      refine WD.nil (by kernel_rfl) ?_
      refine W.seq (W.region rfl ?_)
      refine WL.p h Val.mv ?_
      refine WL.p h Val.as ?_
      refine WL.nil ?_
      refine W.ret ?_
      exact fin1 (v := ov') rfl rfl (hend (oss := oss ++ [sn, s]) (oess := oess ++ [[⟨4, 0, name, 0⟩], es]) (q' := q' + 1) (hs1.trans hs2) ((h.keep 2).cast (by simp)) (by simpa using ((hko.mono hs2).snoc hrn).snoc (hs.mono (hs1.trans hs2))) (by simpa using (hbo.snoc (es := [⟨4, 0, name, 0⟩]) (by simp) (by simpa using hB1)).snoc hes.1 hes.2) (by simp [hlo]; omega) (by simp at hqo; omega))
end Go.Proofs.Ytmiihhbgfijcmaa.K

