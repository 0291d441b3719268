/- The reference's reading of a value's last atom and of its kids. -/
import Derived.Test.YtmiihhbgfijcmaaGreatKe
import Derived.Test.YtmiihhbgfijcmaaGreatKt
import Derived.Test.YtmiihhbgfijcmaaGreatTr
namespace Go.Proofs.YtmiihhbgfijcmaaGreat.K
open Go Go.RowKit
set_option linter.unusedVariables false
set_option linter.unusedSimpArgs false
set_option maxRecDepth 20000

theorem C48 : CF Tryz.prog 38 := ⟨_, Tryz.func38, rfl, rfl⟩
theorem C69 : CF Tryz.prog 37 := ⟨_, Tryz.func37, rfl, rfl⟩
theorem l5Last_calls (F : Fz) (w0 : World) (hF : Sub F (hv w0)) (v : Value) (es : List At) (hr : FRow F v es.length 4 (rowA es)) (a : At) (ha : es[es.length - 1]? = some a) :
    Calls Tryz.prog 38 #[.agg #[v]] w0 fun e w' => e = .returned (.agg a.cells.toArray) ∧ Ext F w0 F w' := by
  refine calls 11 Tryz.func38 rfl rfl rfl ?_
  have h := Hp.start hF
  have hlt := (List.getElem?_eq_some_iff.1 ha).1
  have hmax := hr.max
  refine W.seq (W.region rfl ?_)
  refine WL.box h rfl (fun b1 w h => ?_)
  refine WL.alloc h T79 (fun b2 w h => ?_)
  refine WL.nil ?_
  refine W.seq (W.region rfl ?_)
  refine WL.p h (Val.fa O42_0 rfl) ?_
  refine WL.p h (Val.ld 0 A40 rfl rfl rfl) ?_
  refine WL.p h (Val.fa O42_0 rfl) ?_
  refine WL.p h (Val.ld 0 A40 rfl rfl rfl) ?_
  refine WL.p h (Val.len Tryz.underlying43 rfl hr.val) ?_
  refine WL.p h (Val.subi (c := ((es.length - 1 : Nat) : Int)) rfl rfl (by omega)) ?_
  refine WL.p h (Val.ix Tryz.underlying43 T79 rfl rfl (hr.slice (by omega)) hlt) ?_
  refine WL.p h (Val.ldRS A79 T79 hr rfl rfl (cs := a.cells) (fun j u hj => flat_get At.cells At.cells_len es _ j a u ha hj)) ?_
  refine WL.stS 1 h rfl T79 rfl (vs := a.cells) rfl (by simp [At.cells, Value.oneCell']) rfl rfl (fun w h => ?_)
  refine WL.nil ?_
  refine W.ret ?_
  exact finBox h 1 rfl rfl rfl A79 T79 rfl ⟨rfl, h.toExt⟩

theorem B42 (A : Option Addr) (n c : Nat) : Tryz.prog.built 45 [(0, .slice A n c)] = some #[.slice A n c] := by kernel_rfl
def nv (n : Nat) : Value := .int .i64 n
/-- Kids in memory: each a row of its own atoms. -/
structure KRows (F : Fz) (st : List T) (us : List Value) : Prop where
  len : us.length = st.length
  get : ∀ (i : Nat) t, st[i]? = some t → ∃ s, us[i]? = some s ∧ FRow F s t.enc.length 4 (rowA t.enc)
def PK (F : Fz) (w0 : World) (es : List At) (e : Ending) (w : World) : Prop :=
  ∃ F' u us ok, e = .returned (.tuple #[u, .bool ok]) ∧ Ext F w0 F' w ∧ (match kidsP es with | none => ok = false | some st => ok = true ∧ FRow F' u st.length 1 us ∧ KRows F' st us)
theorem PK.no {F w0 w es} {F' : Fz} {u : Value} (hE : Ext F w0 F' w) (h : kidsP es = none) : PK F w0 es (.returned (.tuple #[u, .bool false])) w := ⟨F', u, [], false, rfl, hE, by rw [h]⟩
def K1 (w0 : World) (F : Fz) (v : Value) (es : List At) (b1 : Nat) (m : Nat) (R : Regs) (w : World) : Prop :=
  ∃ (i : Nat) (st : List T) (sv : Value), m + i = es.length ∧ (i = 0 ∨ i < es.length) ∧ st.length ≤ i ∧ runT [] (es.take i) = some st ∧
    Hp w0 F F [.box b1 [v] 45, .own sv 3 1 st.length ((offs st).map nv)] w ∧ R 1 = .pointer (some ⟨b1, 0, none⟩) ∧ R 4 = sv ∧ R 5 = .int .i64 (i : Int)
def K2 (w0 : World) (F : Fz) (v : Value) (es : List At) (b1 i lo : Nat) (st : List T) (sv : Value) (a : At) (m : Nat) (R : Regs) (w : World) : Prop :=
  ∃ (j : Nat) (ov : Value) (us : List Value), m + j = st.length - lo ∧ us.length = j ∧ (∀ (q : Nat) t, (st.drop lo)[q]? = some t → q < j → ∃ s, us[q]? = some s ∧ FRow F s t.enc.length 4 (rowA t.enc)) ∧
    Hp w0 F F [.box b1 [v] 45, .own sv 3 1 st.length ((offs st).map nv), .own ov 45 1 j us] w ∧ R 1 = .pointer (some ⟨b1, 0, none⟩) ∧ R 4 = sv ∧ R 5 = .int .i64 (i : Int) ∧ R 6 = .int .i64 a.c ∧ R 7 = ov ∧ R 8 = .int .i64 (j : Int)
def K3 (w0 : World) (F : Fz) (v : Value) (b1 i lo j : Nat) (st : List T) (sv ov : Value) (us : List Value) (a : At) (R : Regs) (w : World) : Prop :=
    Hp w0 F F [.box b1 [v] 45, .own sv 3 1 st.length ((offs st).map nv), .own ov 45 1 j us] w ∧ R 1 = .pointer (some ⟨b1, 0, none⟩) ∧ R 4 = sv ∧ R 5 = .int .i64 (i : Int) ∧ R 6 = .int .i64 a.c ∧ R 7 = ov ∧ R 8 = .int .i64 (j : Int) ∧ R 9 = .int .i64 ((T.encs (st.take (lo + j + 1))).length : Int)
def K4 (w0 : World) (F : Fz) (v : Value) (b1 i lo : Nat) (st : List T) (sv : Value) (a : At) (R : Regs) (w : World) : Prop :=
    Hp w0 F F [.box b1 [v] 45, .own sv 3 1 st.length ((offs st).map nv)] w ∧ R 1 = .pointer (some ⟨b1, 0, none⟩) ∧ R 4 = sv ∧ R 5 = .int .i64 (i : Int) ∧ R 6 = .int .i64 a.c ∧ R 10 = .int .i64 ((T.encs (st.take lo)).length : Int)

set_option maxHeartbeats 4000000 in
theorem l5Kids_calls (F : Fz) (w0 : World) (hF : Sub F (hv w0)) (v : Value) (es : List At) (hr : FRow F v es.length 4 (rowA es)) (hB : es.length ≤ 1048576) : Calls Tryz.prog 37 #[.agg #[v]] w0 (PK F w0 es) := by
  refine calls 103 Tryz.func37 rfl rfl rfl ?_
  have h := Hp.start hF
  refine W.seq (W.region rfl ?_)
  refine WL.box h rfl (fun b1 w h => ?_)
  refine WL.p h Val.as ?_
  refine WL.p h Val.as ?_
  refine WL.nil ?_
  refine W.seq (W.region rfl ?_)
  refine WL.bs0 h Tryz.underlying114 T3 (fun b4 w h => ?_)
  refine WL.p h Val.as ?_
  refine WL.nil ?_
  refine W.seq (W.seq (W.region rfl ?_))
  refine WL.p h Val.as ?_
  refine WL.nil ?_
  refine W.block ?_
  refine W.loop (K1 w0 F v es b1) es.length ?_ (fun m R w hI => ?_)
  · exact ⟨0, [], .slice (some ⟨b4, 0, none⟩) 0 0, by omega, .inl rfl, by simp, rfl, h, rfl, rfl, rfl⟩
  clear h
  obtain ⟨i, st, sv, hm, hi, hst, hrun, h, h1, h4, h5⟩ := hI
  have henc := runT_encs _ hrun
  simp only [T.encs, List.nil_append] at henc
  refine W.seq (W.seq (W.region rfl ?_))
  refine WL.p h Val.mv ?_
  refine WL.p h (Val.fa O42_0 h1) ?_
  refine WL.p h (Val.ld 0 A40 rfl rfl rfl) ?_
  refine WL.p h (Val.len Tryz.underlying43 rfl hr.val) ?_
  refine WL.p h (Val.lt h5 rfl) ?_
  refine WL.dec (fun c1 => ?_) (fun c1 => ?_)
  · have hlt : i < es.length := by omega
    obtain ⟨a, ha⟩ : ∃ a, es[i]? = some a := ⟨_, List.getElem?_eq_getElem hlt⟩
    refine WL.nil ?_
    refine W.condT rfl ?_
    refine W.skip ?_
    refine W.seq (W.block ?_)
    refine W.seq (W.region rfl ?_)
    refine WL.p h (Val.fa O42_0 h1) ?_
    refine WL.p h (Val.ld 0 A40 rfl rfl rfl) ?_
    refine WL.p h Val.mv ?_
    refine WL.p h (Val.ix Tryz.underlying43 T79 rfl h5 (hr.slice (by omega)) hlt) ?_
    refine WL.p h (Val.fa O79_3 rfl) ?_
    refine WL.p h (Val.ldRf A3 hr rfl (flat_get At.cells At.cells_len es i 3 a _ ha rfl)) ?_
    refine WL.p h Val.as ?_
    refine WL.nil ?_
    refine W.seq (W.seq (W.region rfl ?_))
    refine WL.p h Val.mv ?_
    refine WL.p h (Val.lt rfl rfl) ?_
    refine WL.dec (fun c2 => ?_) (fun c2 => ?_)
    · refine WL.p h Val.mv ?_
      refine WL.no rfl (WL.no rfl (WL.no rfl (WL.no rfl (?_))))
      refine WL.p h (Val.pick rfl) ?_
      refine WL.nil ?_
      refine W.condT rfl ?_
      refine W.seq (W.region rfl ?_)
      refine WL.bs0 h Tryz.underlying74 T42 (fun b w h => ?_)
      refine WL.p h Val.as ?_
      refine WL.p h Val.as ?_
      refine WL.nil ?_
      refine W.ret ?_
      exact fin2 rfl rfl rfl (PK.no h.toExt (kidsP_bad hrun ha (.inl c2)))
    refine WL.p h Val.mv ?_
    refine WL.p h Val.mv ?_
    refine WL.p h Val.mv ?_
    refine WL.p h (Val.len Tryz.underlying114 h4 (h.row 1 rfl).val) ?_
    refine WL.p h (Val.gt rfl rfl) ?_
    refine WL.dec (fun c3 => ?_) (fun c3 => ?_)
    · refine WL.p h (Val.pick rfl) ?_
      refine WL.nil ?_
      refine W.condT rfl ?_
      refine W.seq (W.region rfl ?_)
      refine WL.bs0 h Tryz.underlying74 T42 (fun b w h => ?_)
      refine WL.p h Val.as ?_
      refine WL.p h Val.as ?_
      refine WL.nil ?_
      refine W.ret ?_
      exact fin2 rfl rfl rfl (PK.no h.toExt (kidsP_bad hrun ha (.inr c3)))
    refine WL.p h (Val.pick rfl) ?_
    refine WL.nil ?_
    refine W.condF rfl ?_
    refine W.skip ?_
    obtain ⟨lo, hlo⟩ : ∃ lo, lo = st.length - a.c.toNat := ⟨_, rfl⟩
    have hc0 : 0 ≤ a.c := by omega
    have hc1 : a.c ≤ st.length := by omega
    refine W.seq (W.seq (W.region rfl ?_))
    refine WL.p h Val.mv ?_
    refine WL.p h (Val.fa O42_0 h1) ?_
    refine WL.p h (Val.ld 0 A40 rfl rfl rfl) ?_
    refine WL.p h (Val.len Tryz.underlying43 rfl hr.val) ?_
    refine WL.p h (Val.subi (c := ((es.length - 1 : Nat) : Int)) rfl rfl (by omega)) ?_
    refine WL.p h (Val.eq h5 rfl) ?_
    refine WL.dec (fun c4 => ?_) (fun c4 => ?_)
    · have hil : i = es.length - 1 := by omega
      have hkp := kidsP_at hrun ha hil
      refine WL.nil ?_
      refine W.condT rfl ?_
      refine W.seq (W.region rfl ?_)
      refine WL.bs0 h Tryz.underlying74 T42 (fun b7 w h => ?_)
      refine WL.p h Val.as ?_
      refine WL.nil ?_
      refine W.seq (W.seq (W.region rfl ?_))
      refine WL.p h Val.as ?_
      refine WL.nil ?_
      refine W.block ?_
      refine W.loop (K2 w0 F v es b1 i lo st sv a) (st.length - lo) ?_ (fun m2 R w hI => ?_)
      · exact ⟨0, .slice (some ⟨b7, 0, none⟩) 0 0, [], by omega, rfl, fun q t _ hq => by omega, h, h1, h4, h5, rfl, rfl, rfl⟩
      clear h h1 h4 h5
      obtain ⟨j, ov, us, hm2, hus, hget, h, h1, h4, h5, h6, h7, h8⟩ := hI
      refine W.seq (W.seq (W.region rfl ?_))
      refine WL.p h Val.mv ?_
      refine WL.p h Val.mv ?_
      refine WL.p h (Val.lt h8 h6) ?_
      refine WL.dec (fun c5 => ?_) (fun c5 => ?_)
      · have hj : lo + j < st.length := by omega
        obtain ⟨t, ht⟩ : ∃ t, st[lo + j]? = some t := ⟨_, List.getElem?_eq_getElem hj⟩
        have hpos : (T.encs (st.take (lo + j))).length ≤ (T.encs (st.take (lo + j + 1))).length ∧ (T.encs (st.take (lo + j + 1))).length ≤ i := by
          obtain ⟨hlt', e⟩ := List.getElem?_eq_some_iff.1 ht
          have e1 : T.encs (st.take (lo + j + 1)) = T.encs (st.take (lo + j)) ++ t.enc := by rw [List.take_succ_eq_append_getElem hlt', encs_append, e, encs_one]
          have e2 : T.encs st = T.encs (st.take (lo + j + 1)) ++ T.encs (st.drop (lo + j + 1)) := by rw [← encs_append, List.take_append_drop]
          have e3 := congrArg List.length e2
          rw [henc] at e3
          simp only [List.length_append, List.length_take] at e3
          rw [e1] at e3 ⊢
          simp only [List.length_append] at e3 ⊢
          omega
        refine WL.nil ?_
        refine W.condT rfl ?_
        refine W.skip ?_
        refine W.seq (W.block ?_)
        refine W.seq (W.region rfl ?_)
        refine WL.p h Val.mv ?_
        refine WL.p h Val.as ?_
        refine WL.nil ?_
        refine W.cut (K3 w0 F v b1 i lo j st sv ov us a) (W.seq (W.region rfl ?_)) (fun R w hJ => ?_)
        · refine WL.p h Val.mv ?_
          refine WL.p h (Val.addi (c := ((j + 1 : Nat) : Int)) h8 rfl (by omega)) ?_
          refine WL.p h Val.mv ?_
          refine WL.p h (Val.lt rfl h6) ?_
          refine WL.dec (fun c6 => ?_) (fun c6 => ?_)
          · refine WL.nil ?_
            refine W.condT rfl ?_
            refine W.region rfl ?_
            refine WL.p h Val.mv ?_
            refine WL.p h Val.mv ?_
            refine WL.p h (Val.len Tryz.underlying114 h4 (h.row 1 rfl).val) ?_
            refine WL.p h Val.mv ?_
            refine WL.p h (Val.subi (c := (lo : Int)) rfl h6 (by omega)) ?_
            refine WL.p h Val.mv ?_
            refine WL.p h (Val.addi (c := ((lo + j : Nat) : Int)) rfl h8 (by omega)) ?_
            refine WL.p h (Val.addi (c := ((lo + j + 1 : Nat) : Int)) rfl rfl (by omega)) ?_
            refine WL.p h (Val.ix Tryz.underlying114 T3 h4 rfl ((h.row 1 rfl).slice (by omega)) (by omega)) ?_
            refine WL.p h (Val.ldO 1 A3 rfl rfl (u := .int .i64 ((T.encs (st.take (lo + j + 1))).length : Int)) (by rw [Nat.mul_one, List.getElem?_map, offs_get (by omega)]; rfl)) ?_
            refine WL.p h Val.as ?_
            refine WL.nil ?_
            exact ⟨h, h1, h4, h5, h6, h7, h8, rfl⟩
          · refine WL.nil ?_
            refine W.condF rfl ?_
            refine W.skip ?_
            refine ⟨h, h1, h4, h5, h6, h7, h8, h5.trans ?_⟩
            rw [List.take_of_length_le (by omega), henc, List.length_take, Nat.min_eq_left (by omega)]
        clear h h1 h4 h5 h6 h7 h8
        obtain ⟨h, h1, h4, h5, h6, h7, h8, h9⟩ := hJ
        have hmr := hr.mid hpos.1 (by omega : (T.encs (st.take (lo + j + 1))).length ≤ es.length)
        have hpiece : ((rowA es).drop ((T.encs (st.take (lo + j))).length * 4)).take (((T.encs (st.take (lo + j + 1))).length - (T.encs (st.take (lo + j))).length) * 4) = rowA t.enc := by
          obtain ⟨hlt', e⟩ := List.getElem?_eq_some_iff.1 ht
          have e1 : T.encs (st.take (lo + j + 1)) = T.encs (st.take (lo + j)) ++ t.enc := by rw [List.take_succ_eq_append_getElem hlt', encs_append, e, encs_one]
          have e2 : T.encs st = T.encs (st.take (lo + j)) ++ (t.enc ++ T.encs (st.drop (lo + j + 1))) := by rw [← List.append_assoc, ← e1, ← encs_append, List.take_append_drop]
          have e3 : es = T.encs (st.take (lo + j)) ++ (t.enc ++ (T.encs (st.drop (lo + j + 1)) ++ es.drop i)) := by
            rw [← List.append_assoc, ← List.append_assoc, List.append_assoc (T.encs _) t.enc, ← e2, henc, List.take_append_drop]
          rw [rowA, flat_drop At.cells At.cells_len, flat_take At.cells At.cells_len, e1, List.length_append, Nat.add_sub_cancel_left]
          conv => lhs; rw [e3]
          rw [List.drop_left, List.take_left]; rfl
        rw [hpiece] at hmr
        have hsz : (T.encs (st.take (lo + j + 1))).length - (T.encs (st.take (lo + j))).length = t.enc.length := by
          obtain ⟨hlt', e⟩ := List.getElem?_eq_some_iff.1 ht
          rw [List.take_succ_eq_append_getElem hlt', encs_append, e, encs_one, List.length_append]; omega
        rw [hsz] at hmr
        obtain ⟨A', c', hmv, _⟩ := hmr.val
        rw [hmv] at hmr
        refine W.draw (fun w => Hp w0 F F [.box b1 [v] 45, .own sv 3 1 st.length ((offs st).map nv), .dead] w) [] 18 (by kernel_rfl) rfl rfl ?_
        have h := h.drewN 1
        have hS := h.kill 2
        refine WD.take 0 rfl (by kernel_rfl) (fun _ _ _ h => fin_panic h) hS Val.mv ?_
        refine WD.take 1 rfl (by kernel_rfl) (fun _ _ _ h => fin_panic h) hS (Val.fa O42_0 h1) ?_
        refine WD.take 2 rfl (by kernel_rfl) (fun _ _ _ h => fin_panic h) hS (Val.ld 0 A40 rfl rfl rfl) ?_
        refine WD.take 3 rfl (by kernel_rfl) (fun _ _ _ h => fin_panic h) hS Val.mv ?_
        refine WD.take 4 rfl (by kernel_rfl) (fun _ _ _ h => fin_panic h) hS Val.mv ?_
        refine WD.take 5 rfl (by kernel_rfl) (fun _ _ _ h => fin_panic h) hS (Val.len Tryz.underlying114 h4 (h.row 1 rfl).val) ?_
        refine WD.take 6 rfl (by kernel_rfl) (fun _ _ _ h => fin_panic h) hS Val.mv ?_
        refine WD.take 7 rfl (by kernel_rfl) (fun _ _ _ h => fin_panic h) hS (Val.subi (c := (lo : Int)) rfl h6 (by omega)) ?_
        refine WD.take 8 rfl (by kernel_rfl) (fun _ _ _ h => fin_panic h) hS Val.mv ?_
        refine WD.take 9 rfl (by kernel_rfl) (fun _ _ _ h => fin_panic h) hS (Val.addi (c := ((lo + j : Nat) : Int)) rfl h8 (by omega)) ?_
        refine WD.take 10 rfl (by kernel_rfl) (fun _ _ _ h => fin_panic h) hS (Val.ix Tryz.underlying114 T3 h4 rfl ((h.row 1 rfl).slice (by omega)) (by omega)) ?_
        refine WD.take 11 rfl (by kernel_rfl) (fun _ _ _ h => fin_panic h) hS (Val.ldO 1 A3 rfl rfl (u := .int .i64 ((T.encs (st.take (lo + j))).length : Int)) (by rw [Nat.mul_one, List.getElem?_map, offs_get (by omega)]; rfl)) ?_
        refine WD.take 12 rfl (by kernel_rfl) (fun _ _ _ h => fin_panic h) hS Val.mv ?_
        refine WD.take 13 rfl (by kernel_rfl) (fun _ _ _ h => fin_panic h) hS (Val.slMid Tryz.underlying43 T79 rfl rfl h9 hr.val (by omega) (by omega)) ?_
        refine WD.take 14 rfl (by kernel_rfl) (fun _ _ _ h => fin_panic h) hS (Val.build1 hmv (B42 _ _ _)) ?_
        refine WD.one 15 rfl (by kernel_rfl) ?_
        refine WL.bs1 h Tryz.underlying74 T42 (by decide) (cs := [.slice A' t.enc.length c']) rfl rfl (fun b9 w h => ?_)
        refine WL.nil ?_
        refine ⟨(h.kill 2).keep 3, ?_⟩
        refine WD.one 16 rfl (by kernel_rfl) ?_
        refine WL.app 2 h rfl Tryz.underlying74 T42 (by decide) h7 rfl (news := [.slice A' t.enc.length c']) rfl (box_news h (i := 3) rfl) (by simp [Value.oneCell']) (by omega) (by omega) (fun ov' w h => ?_)
        refine WL.nil ?_
        have hS := (h.kill 2).keep 3
        refine ⟨hS, ?_⟩
        refine WD.take 17 rfl (by kernel_rfl) (fun _ _ _ h => fin_panic h) hS Val.as ?_
        refine WD.nil (by kernel_rfl) ?_
        refine W.region rfl ?_
        refine WL.p h Val.mv ?_
        refine WL.p h (Val.addi (c := ((j + 1 : Nat) : Int)) h8 rfl (by omega)) ?_
        refine WL.p h Val.as ?_
        refine WL.nil ?_
        refine ⟨m2 - 1, by omega, j + 1, ov', us ++ [Value.slice A' t.enc.length c'], by omega, by simp [hus], fun q t' ht' hq => ?_, h.keep 3, h1, h4, h5, h6, rfl, rfl⟩
        by_cases hqj : q < j
        · obtain ⟨s, hs, hs2⟩ := hget q t' ht' hqj
          exact ⟨s, by rw [List.getElem?_append_left (by omega)]; exact hs, hs2⟩
        · obtain rfl : q = j := by omega
          rw [List.getElem?_drop, ht] at ht'
          cases ht'
          exact ⟨_, by rw [List.getElem?_append_right (by omega), hus, Nat.sub_self]; rfl, hmr⟩
      · refine WL.nil ?_
        refine W.condF rfl ?_
        refine W.exit ?_
        refine W.seq (W.region rfl ?_)
        refine WL.p h Val.mv ?_
        refine WL.p h Val.mv ?_
        refine WL.p h Val.mv ?_
        refine WL.p h (Val.len Tryz.underlying114 h4 (h.row 1 rfl).val) ?_
        refine WL.p h (Val.eq h6 rfl) ?_
        refine WL.p h Val.as ?_
        refine WL.p h Val.as ?_
        refine WL.nil ?_
        refine W.ret ?_
        by_cases hk : a.c = st.length
        · obtain ⟨F', hsub, h, hrow⟩ := h.freezeRow 2 rfl
          have hlo0 : lo = 0 := by omega
          subst hlo0
          rw [List.drop_zero] at hget
          have hj : j = st.length := by omega
          refine fin2 (v := ov) (x := .bool true) rfl h7 (show Value.bool (decide _) = _ by simp [hk]) ⟨F', ov, us, true, rfl, h.toExt, ?_⟩
          rw [hkp, if_pos hk]
          exact ⟨rfl, hj ▸ hrow, by omega, fun q t ht => by
            obtain ⟨s, hs, hs2⟩ := hget q t ht (by have := (List.getElem?_eq_some_iff.1 ht).1; omega)
            exact ⟨s, hs, hs2.mono hsub⟩⟩
        · exact fin2 (x := .bool false) rfl h7 (show Value.bool (decide _) = _ by simp [hk]) (PK.no h.toExt (by rw [hkp, if_neg hk]))
    refine WL.nil ?_
    refine W.condF rfl ?_
    refine W.skip ?_
    refine W.seq (W.region rfl ?_)
    refine WL.p h Val.mv ?_
    refine WL.p h Val.as ?_
    refine WL.nil ?_
    refine W.cut (K4 w0 F v b1 i lo st sv a) (W.seq (W.region rfl ?_)) (fun R w hJ => ?_)
    · refine WL.p h Val.mv ?_
      refine WL.p h (Val.gt rfl rfl) ?_
      refine WL.dec (fun c5 => ?_) (fun c5 => ?_)
      · refine WL.nil ?_
        refine W.condT rfl ?_
        refine W.region rfl ?_
        refine WL.p h Val.mv ?_
        refine WL.p h Val.mv ?_
        refine WL.p h (Val.len Tryz.underlying114 h4 (h.row 1 rfl).val) ?_
        refine WL.p h Val.mv ?_
        refine WL.p h (Val.subi (c := (lo : Int)) rfl rfl (by omega)) ?_
        refine WL.p h (Val.ix Tryz.underlying114 T3 h4 rfl ((h.row 1 rfl).slice (by omega)) (by omega)) ?_
        refine WL.p h (Val.ldO 1 A3 rfl rfl (u := .int .i64 ((T.encs (st.take lo)).length : Int)) (by rw [Nat.mul_one, List.getElem?_map, offs_get (by omega)]; rfl)) ?_
        refine WL.p h Val.as ?_
        refine WL.nil ?_
        exact ⟨h, h1, h4, h5, rfl, rfl⟩
      · refine WL.nil ?_
        refine W.condF rfl ?_
        refine W.skip ?_
        refine ⟨h, h1, h4, h5, rfl, h5.trans ?_⟩
        rw [List.take_of_length_le (by omega), henc, List.length_take, Nat.min_eq_left (by omega)]
    clear h h1 h4 h5
    obtain ⟨h, h1, h4, h5, h6, h10⟩ := hJ
    refine W.region rfl ?_
    refine WL.p h Val.mv ?_
    refine WL.p h Val.mv ?_
    refine WL.p h (Val.len Tryz.underlying114 h4 (h.row 1 rfl).val) ?_
    refine WL.p h Val.mv ?_
    refine WL.p h (Val.subi (c := (lo : Int)) rfl h6 (by omega)) ?_
    refine WL.p h (Val.slToV Tryz.underlying114 T3 h4 rfl (h.row 1 rfl).val (by omega)) ?_
    refine WL.p h Val.mv ?_
    refine WL.bs1 h Tryz.underlying114 T3 (by decide) (cs := [nv (T.encs (st.take lo)).length]) (by simp only [ev, updO, upd, h10]; rfl) rfl (fun b9 w h => ?_)
    have h := h.head 1 rfl (k := lo) (by omega)
    refine WL.app 1 h rfl Tryz.underlying114 T3 (by decide) rfl rfl (news := [nv (T.encs (st.take lo)).length]) rfl (box_news h (i := 2) rfl) (by simp [nv, Value.oneCell']) (by omega) (by omega) (fun sv' w h => ?_)
    refine WL.p h Val.as ?_
    refine WL.nil ?_
    refine W.region rfl ?_
    refine WL.p h Val.mv ?_
    refine WL.p h (Val.addi (c := ((i + 1 : Nat) : Int)) h5 rfl (by omega)) ?_
    refine WL.p h Val.as ?_
    refine WL.nil ?_
    have hnext := runT_step hrun ha
    have hstep : stepT st a = some (st.take lo ++ [.node a (st.drop lo)]) := by unfold stepT; rw [if_neg (by omega), ← hlo]
    refine ⟨m - 1, by omega, i + 1, st.take lo ++ [.node a (st.drop lo)], sv', by omega, by omega, by simp; omega, hnext.trans hstep, (h.keep 2).cast ?_, h1, rfl, rfl⟩
    rw [offs_push _ _ (by omega), List.map_append, List.map_take, Nat.mul_one]
    simp
    omega
  · refine WL.nil ?_
    refine W.condF rfl ?_
    refine W.exit ?_
    refine W.seq (W.region rfl ?_)
    refine WL.bs0 h Tryz.underlying74 T42 (fun b w h => ?_)
    refine WL.p h Val.as ?_
    refine WL.p h Val.as ?_
    refine WL.nil ?_
    refine W.ret ?_
    refine fin2 rfl rfl rfl (PK.no h.toExt ?_)
    have : es = [] := List.eq_nil_of_length_eq_zero (by omega)
    rw [this]; rfl
end Go.Proofs.YtmiihhbgfijcmaaGreat.K


