/- The walk of the program's unpack. -/
import Derived.Test.YtmiihhbgfijcmaaVb
import Derived.Test.YtmiihhbgfijcmaaKt
import Derived.Laws.StructEq
namespace Go.Proofs.Ytmiihhbgfijcmaa.K
open Go Go.RowKit
set_option linter.unusedVariables false
set_option linter.unusedSimpArgs false

theorem B79k (k : Int) : Try.prog.built 79 [(0, .int .i64 k)] = some #[.int .i64 k, .int .i64 0, .string ⟨#[]⟩, .int .i64 0] := by kernel_rfl
theorem B108d (k : Int) : Try.prog.built 108 [(1, .int .i64 k)] = some #[.nilIface, .int .i64 k, .bool false] := by kernel_rfl
theorem B112e : Try.prog.built 112 [] = some #[.slice none 0 0, .slice none 0 0] := by kernel_rfl

/-- '==' of two atoms. -/
theorem run_eqAt (x y : At) (w : World) : (Op.equalIn 10000 79 (.agg x.cells.toArray) (.agg y.cells.toArray)).run Try.prog w = .ok (decide (x = y)) w := by
  have hf : Try.prog.fieldsOf 79 = #[⟨ "Kind", 3, 0, false, "", "", 0⟩, ⟨ "N", 2, 1, false, "", "", 8⟩, ⟨ "Text", 9, 2, false, "", "", 16⟩, ⟨ "Kids", 3, 3, false, "", "", 32⟩] := by simp only [Program.fieldsOf, Try.underlying79]
  rw [run_equalIn_struct (P := Try.prog) w 9999 79 _ _ (by rw [hf]; exact Try.underlying79) (by kernel_rfl), hf]
  have e1 : ∀ (j : Nat) (v : Value) (t : TypeId) (a : At), AG Try.prog t false → a.cells[j]? = some v → ∀ w, (part t a.cells.toArray j).run Try.prog w = .ok v w := fun j v t a hA hv w => by simp [part, hA w, hv]
  have i1 : ∀ (a b : Int) (t : TypeId), Try.prog.underlying t = some (.int .i64) → ∀ w, (Op.equalIn 9999 t (.int .i64 a) (.int .i64 b)).run Try.prog w = .ok (a == b) w := fun a b t h w => run_equalIn_int w 9998 t .i64 .i64 a b h
  have s1 : ∀ (a b : ByteArray) (w : World), (Op.equalIn 9999 9 (.string a) (.string b)).run Try.prog w = .ok (a.toList == b.toList) w := fun a b w => run_equalIn_string w 9998 9 a b Try.underlying9
  simp only [Op.eqFields, Sem.run_bind, Sem.run_ite, e1 0 (.int .i64 x.k) 3 x A3 rfl, e1 1 (.int .i64 x.n) 2 x A2 rfl, e1 2 (.string x.t) 9 x A9 rfl, e1 3 (.int .i64 x.c) 3 x A3 rfl, e1 0 (.int .i64 y.k) 3 y A3 rfl, e1 1 (.int .i64 y.n) 2 y A2 rfl, e1 2 (.string y.t) 9 y A9 rfl, e1 3 (.int .i64 y.c) 3 y A3 rfl, Result.andThen_ok, i1 _ _ 3 Try.underlying3, i1 _ _ 2 Try.underlying2, s1, toList_eq]
  obtain ⟨a1, a2, a3, a4⟩ := x
  obtain ⟨b1, b2, b3, b4⟩ := y
  simp only [At.mk.injEq]
  by_cases h1 : a1 = b1 <;> by_cases h2 : a2 = b2 <;> by_cases h3 : a3 = b3 <;> by_cases h4 : a4 = b4 <;> simp [h1, h2, h3, h4]
section
variable {R : Regs} {w0 : World} {F0 F : Fz} {L : List Ch} {d : Option Nat} {ty : TypeId} {pos : String} {af : Array Edge} {g : Option (Nat × Bool)}
theorem Val.atNe {x y : Operand} {a b : At} (hx : ev R x = .agg a.cells.toArray) (hy : ev R y = .agg b.cells.toArray) : Val Try.prog (Hp w0 F0 F L) R ⟨d, .binOp .neq 79 x y 79, ty, pos, af, g⟩ (.bool (decide (a ≠ b))) := fun w _ => by
  have hg := run_eqGuard_agg (P := Try.prog) w .neq 79 x y a.cells.toArray b.cells.toArray (by kernel_rfl)
  simp only [execOp, hx, hy, Sem.run_bind, hg, Result.andThen_ok, run_neq_struct, run_eqAt, Sem.run_pure]
  by_cases h : a = b <;> simp [h]
end

def PU (F : Fz) (w0 : World) (es : List At) (e : Ending) (w : World) : Prop :=
  ∃ F' u ok, e = .returned (.tuple #[u, .bool ok]) ∧ Ext F w0 F' w ∧ (match unpackP es with | none => ok = false | some x => ok = true ∧ Rep F' x u)
theorem PU.no {F0 F : Fz} {w0 w : World} {L : List Ch} {es : List At} (h : Hp w0 F0 F L w) (hu : unpackP es = none) : PU F0 w0 es (.returned (.tuple #[.nilIface, .bool false])) w :=
  ⟨F, _, _, rfl, h.toExt, by rw [hu]⟩

def ptr (b : Nat) : Value := .pointer (some ⟨b, 0, none⟩)
def I1 (w0 : World) (F0 : Fz) (v : Value) (es : List At) (b1 : Nat) (m : Nat) (R : Regs) (w : World) : Prop :=
  ∃ (i : Nat) (F : Fz) (sv : Value) (its : List (It × Value)), m + i = es.length ∧ its.length ≤ i ∧
    Hp w0 F0 F [.box b1 [v] 42, .own sv 108 3 its.length (its.flatMap icell)] w ∧ R 30 = v ∧ R 31 = .int .i64 es.length ∧ R 32 = .int .i64 (i : Int) ∧ R 4 = sv ∧
    runU [] (es.take i) = some (its.map (·.1)) ∧ ∀ p ∈ its, Good F p
/-- The loop that reckons the depth. -/
def I2 (w0 : World) (F0 F : Fz) (v : Value) (es : List At) (b1 b6 i lo : Nat) (sv : Value) (its : List (It × Value)) (a : At) (m : Nat) (R : Regs) (w : World) : Prop :=
  ∃ (j : Nat), m + j = its.length - lo ∧
    Hp w0 F0 F [.box b1 [v] 42, .own sv 108 3 its.length (its.flatMap icell), .box b6 a.cells 79] w ∧ R 30 = v ∧ R 31 = .int .i64 es.length ∧ R 32 = .int .i64 (i : Int) ∧ R 4 = sv ∧ R 6 = ptr b6 ∧
    R 7 = fromS sv lo 3 ∧ R 53 = fromS sv lo 3 ∧ R 54 = .int .i64 (its.length - lo : Nat) ∧ R 55 = .int .i64 (j : Int) ∧ R 8 = .int .i64 (depthOf 0 (((its.map (·.1)).drop lo).take j))
/-- Behind the switch. -/
def J4 (w0 : World) (F0 F : Fz) (v : Value) (es : List At) (b1 i lo : Nat) (sv : Value) (its : List (It × Value)) (a : At) (dd : Int) (R : Regs) (w : World) : Prop :=
  ∃ F' b6 b11 b12 x u, Sub F F' ∧ Hp w0 F0 F' [.box b1 [v] 42, .own sv 108 3 its.length (its.flatMap icell), .box b6 a.cells 79, .box b11 (want a).cells 79, .box b12 [u, .int .i64 dd, .bool (decide (a.k = 4))] 108] w ∧
    R 30 = v ∧ R 31 = .int .i64 es.length ∧ R 32 = .int .i64 (i : Int) ∧ R 4 = sv ∧ R 6 = ptr b6 ∧ R 8 = .int .i64 dd ∧ R 11 = ptr b11 ∧ R 12 = ptr b12 ∧ valOf a ((its.map (·.1)).drop lo) = some x ∧ Rep F' x u

theorem one_cells {v : Value} (h : v.oneCell' = true) : v.cells = [v].toArray := by cases v <;> first | rfl | simp [Value.oneCell'] at h
theorem reps_good {F : Fz} : ∀ (ps : List (It × Value)), (∀ p ∈ ps, Good F p) → Reps F ((ps.map (·.1)).map It.v) (ps.map (·.2))
  | [], _ => rfl
  | p :: ps, h => by
    simp only [List.map_cons, Reps]
    exact ⟨_, _, rfl, (h p (by simp)).rep, reps_good ps fun q hq => h q (by simp [hq])⟩
/-- The loop that gathers a list. -/
def I5 (w0 : World) (F0 F : Fz) (v : Value) (es : List At) (b1 b6 b11 b12 i lo : Nat) (sv : Value) (its : List (It × Value)) (a : At) (dd : Int) (m : Nat) (R : Regs) (w : World) : Prop :=
  ∃ (j : Nat) (lv : Value), m + j = its.length - lo ∧
    Hp w0 F0 F [.box b1 [v] 42, .own sv 108 3 its.length (its.flatMap icell), .box b6 a.cells 79, .box b11 (want a).cells 79, .box b12 [.nilIface, .int .i64 dd, .bool false] 108, .own lv 71 1 j (((its.drop lo).take j).map (·.2))] w ∧
    R 30 = v ∧ R 31 = .int .i64 es.length ∧ R 32 = .int .i64 (i : Int) ∧ R 4 = sv ∧ R 6 = ptr b6 ∧ R 8 = .int .i64 dd ∧ R 11 = ptr b11 ∧ R 12 = ptr b12 ∧
    R 124 = fromS sv lo 3 ∧ R 125 = .int .i64 (its.length - lo : Nat) ∧ R 126 = .int .i64 (j : Int) ∧ R 13 = lv
/-- The loop that gathers a record. -/
def I6 (w0 : World) (F0 F : Fz) (v : Value) (es : List At) (b1 b6 b11 b12 b16 i lo q : Nat) (sv : Value) (its : List (It × Value)) (a : At) (dd : Int) (m : Nat) (R : Regs) (w : World) : Prop :=
  ∃ (j : Nat) (nv vv : Value) (ns : List ByteArray) (us : List Value) (vs : List V), m + j = q ∧ ns.length = j ∧ vs.length = j ∧ Reps F vs us ∧
    recGo ((its.map (·.1)).drop lo) [] [] = recGo (((its.map (·.1)).drop lo).drop (2 * j)) ns vs ∧
    Hp w0 F0 F [.box b1 [v] 42, .own sv 108 3 its.length (its.flatMap icell), .box b6 a.cells 79, .box b11 (want a).cells 79, .box b12 [.nilIface, .int .i64 dd, .bool false] 108, .box b16 [nv, vv] 112, .own nv 9 1 j (ns.map .string), .own vv 71 1 j us] w ∧
    R 30 = v ∧ R 31 = .int .i64 es.length ∧ R 32 = .int .i64 (i : Int) ∧ R 4 = sv ∧ R 6 = ptr b6 ∧ R 8 = .int .i64 dd ∧ R 11 = ptr b11 ∧ R 12 = ptr b12 ∧
    R 7 = fromS sv lo 3 ∧ R 16 = ptr b16 ∧ R 17 = .int .i64 (2 * j : Nat)
/-- Behind the test of the names' order. -/
def J6 (w0 : World) (F0 F : Fz) (v : Value) (es : List At) (b1 b6 b11 b12 b16 i lo j : Nat) (sv : Value) (its : List (It × Value)) (a : At) (dd : Int) (nv vv : Value) (ns : List ByteArray) (us : List Value) (s : ByteArray) (R : Regs) (w : World) : Prop :=
    ¬ (ns ≠ [] ∧ leT s (ns.getLastD ⟨#[]⟩) = true) ∧ Hp w0 F0 F [.box b1 [v] 42, .own sv 108 3 its.length (its.flatMap icell), .box b6 a.cells 79, .box b11 (want a).cells 79, .box b12 [.nilIface, .int .i64 dd, .bool false] 108, .box b16 [nv, vv] 112, .own nv 9 1 j (ns.map .string), .own vv 71 1 j us] w ∧
    R 30 = v ∧ R 31 = .int .i64 es.length ∧ R 32 = .int .i64 (i : Int) ∧ R 4 = sv ∧ R 6 = ptr b6 ∧ R 8 = .int .i64 dd ∧ R 11 = ptr b11 ∧ R 12 = ptr b12 ∧
    R 7 = fromS sv lo 3 ∧ R 16 = ptr b16 ∧ R 17 = .int .i64 (2 * j : Nat) ∧ R 18 = .string s

theorem stepU_of {st : List It} {a : At} (h0 : 0 ≤ a.c) (h1 : a.c ≤ st.length) : stepU st a = (valOf a (st.drop (st.length - a.c.toNat))).bind fun x =>
    if want a ≠ a ∨ depthOf 0 (st.drop (st.length - a.c.toNat)) > 12 then none
      else some (st.take (st.length - a.c.toNat) ++ [⟨x, depthOf 0 (st.drop (st.length - a.c.toNat)), decide (a.k = 4)⟩]) := by
  unfold stepU
  rw [if_neg (by omega)]

theorem icell_one {p : It × Value} (h : p.2.oneCell' = true) : ∀ u ∈ icell p, u.oneCell' = true := by
  intro u hu
  simp only [icell, List.mem_cons, List.not_mem_nil, or_false] at hu
  rcases hu with rfl | rfl | rfl
  · exact h
  · rfl
  · rfl

set_option maxRecDepth 20000 in
set_option maxHeartbeats 4000000 in
theorem unpack_calls (F0 : Fz) (w0 : World) (hF : Sub F0 (hv w0)) (v : Value) (es : List At) (hr : FRow F0 v es.length 4 (rowA es)) : Calls Try.prog 42 #[.agg #[v]] w0 (PU F0 w0 es) := by
  refine calls 232 Try.func42 rfl rfl rfl ?_
  have h := Hp.start hF
  have hmax := hr.max
  refine W.seq (W.region rfl ?_)
  refine WL.box h rfl (fun b1 w h => ?_)
  refine WL.p h Val.as ?_
  refine WL.p h Val.as ?_
  refine WL.nil ?_
  refine W.seq (W.seq (W.region rfl ?_))
  refine WL.p h (Val.fa O42_0 rfl) ?_
  refine WL.p h (Val.ld 0 A40 rfl rfl rfl) ?_
  refine WL.p h (Val.len Try.underlying40 rfl hr.val) ?_
  refine WL.p h (Val.lt rfl rfl) ?_
  refine WL.dec (fun c2 => ?_) (fun c2 => ?_)
  · refine WL.p h Val.mv ?_
    refine WL.no rfl (WL.no rfl (WL.no rfl (WL.no rfl ?_)))
    refine WL.p h (Val.pick rfl) ?_
    refine WL.nil ?_
    refine W.condT rfl ?_
    refine W.seq (W.region rfl ?_)
    refine WL.p h Val.as ?_
    refine WL.p h Val.as ?_
    refine WL.nil ?_
    refine W.ret ?_
    exact fin2 rfl rfl rfl (PU.no h (by unfold unpackP; rw [if_pos (by omega)]))
  · refine WL.p h Val.mv ?_
    refine WL.p h (Val.fa O42_0 rfl) ?_
    refine WL.p h (Val.ld 0 A40 rfl rfl rfl) ?_
    refine WL.p h (Val.len Try.underlying40 rfl hr.val) ?_
    refine WL.p h (Val.gt rfl rfl) ?_
    refine WL.dec (fun c3 => ?_) (fun c3 => ?_)
    · refine WL.p h (Val.pick rfl) ?_
      refine WL.nil ?_
      refine W.condT rfl ?_
      refine W.seq (W.region rfl ?_)
      refine WL.p h Val.as ?_
      refine WL.p h Val.as ?_
      refine WL.nil ?_
      refine W.ret ?_
      exact fin2 rfl rfl rfl (PU.no h (by unfold unpackP; rw [if_pos (by omega)]))
    · refine WL.p h (Val.pick rfl) ?_
      refine WL.nil ?_
      refine W.condF rfl ?_
      refine W.skip ?_
      refine W.seq (W.region rfl ?_)
      refine WL.p h Val.as ?_
      refine WL.nil ?_
      refine W.seq (W.seq (W.region rfl ?_))
      refine WL.p h (Val.fa O42_0 rfl) ?_
      refine WL.p h (Val.ld 0 A40 rfl rfl rfl) ?_
      refine WL.p h (Val.len Try.underlying40 rfl hr.val) ?_
      refine WL.p h Val.mv ?_
      refine WL.nil ?_
      refine W.block ?_
      refine W.loop (I1 w0 F0 v es b1) es.length ?_ (fun m R w hI => ?_)
      · exact ⟨0, F0, _, [], by omega, by simp, h.nilRow 108 3, rfl, rfl, rfl, rfl, rfl, by simp⟩
      obtain ⟨i, F, sv, its, hm, hle, h, h30, h31, h32, h4, hrun, hgood⟩ := hI
      refine W.seq (W.region rfl ?_)
      refine WL.p h (Val.lt h32 h31) ?_
      refine WL.dec (fun c4 => ?_) (fun c4 => ?_)
      · have hlt : i < es.length := by omega
        obtain ⟨a, ha⟩ : ∃ a, es[i]? = some a := ⟨_, List.getElem?_eq_getElem hlt⟩
        refine WL.nil ?_
        refine W.seq ?_
        refine W.condT rfl ?_
        refine W.skip ?_
        refine W.seq (W.block ?_)
        refine W.seq (W.region rfl ?_)
        refine WL.p h (Val.ix Try.underlying40 T79 h30 h32 (hr.slice (by omega)) hlt) ?_
        refine WL.p h (Val.ldRS A79 T79 (hr.mono h.ext) rfl rfl (cs := a.cells) (fun j u hj => flat_get At.cells At.cells_len es i j a u ha hj)) ?_
        refine WL.alloc h T79 (fun b6 w h => ?_)
        refine WL.stS 2 h rfl T79 rfl rfl (by simp [At.cells, Value.oneCell']) rfl rfl (fun w h => ?_)
        refine WL.nil ?_
        refine W.seq (W.seq (W.region rfl ?_))
        refine WL.p h (Val.fa O79_3 rfl) ?_
        refine WL.p h (Val.ld 2 A3 rfl rfl rfl) ?_
        refine WL.p h (Val.lt rfl rfl) ?_
        refine WL.dec (fun c6 => ?_) (fun c6 => ?_)
        · refine WL.p h Val.mv ?_
          refine WL.no rfl (WL.no rfl (WL.no rfl (WL.no rfl (WL.no rfl ?_))))
          refine WL.p h (Val.pick rfl) ?_
          refine WL.nil ?_
          refine W.condT rfl ?_
          refine W.seq (W.region rfl ?_)
          refine WL.p h Val.as ?_
          refine WL.p h Val.as ?_
          refine WL.nil ?_
          refine W.ret ?_
          exact fin2 rfl rfl rfl (PU.no h (unpack_stop hrun ha (by unfold stepU; rw [if_pos (by omega)])))
        · refine WL.p h Val.mv ?_
          refine WL.p h (Val.fa O79_3 rfl) ?_
          refine WL.p h (Val.ld 2 A3 rfl rfl rfl) ?_
          refine WL.p h Val.mv ?_
          refine WL.p h (Val.len Try.underlying106 h4 (h.row 1 rfl).val) ?_
          refine WL.p h (Val.gt rfl rfl) ?_
          refine WL.dec (fun c7 => ?_) (fun c7 => ?_)
          · refine WL.p h (Val.pick rfl) ?_
            refine WL.nil ?_
            refine W.condT rfl ?_
            refine W.seq (W.region rfl ?_)
            refine WL.p h Val.as ?_
            refine WL.p h Val.as ?_
            refine WL.nil ?_
            refine W.ret ?_
            exact fin2 rfl rfl rfl (PU.no h (unpack_stop hrun ha (by unfold stepU; rw [if_pos (by simp; omega)])))
          · have hc0 : 0 ≤ a.c := by omega
            have hc1 : a.c ≤ its.length := by omega
            obtain ⟨lo, hlo⟩ : ∃ lo, lo = its.length - a.c.toNat := ⟨_, rfl⟩
            refine WL.p h (Val.pick rfl) ?_
            refine WL.nil ?_
            refine W.condF rfl ?_
            refine W.skip ?_
            refine W.seq (W.region rfl ?_)
            refine WL.p h Val.mv ?_
            refine WL.p h Val.mv ?_
            refine WL.p h (Val.len Try.underlying106 h4 (h.row 1 rfl).val) ?_
            refine WL.p h (Val.fa O79_3 rfl) ?_
            refine WL.p h (Val.ld 2 A3 rfl rfl rfl) ?_
            refine WL.p h (Val.subi (c := (lo : Int)) rfl rfl (by omega)) ?_
            refine WL.p h (Val.slFromV Try.underlying106 T108 h4 rfl (h.row 1 rfl).val (by omega)) ?_
            refine WL.p h Val.as ?_
            refine WL.nil ?_
            refine W.seq (W.region rfl ?_)
            refine WL.p h Val.as ?_
            refine WL.nil ?_
            have hK : ∀ {L' w'}, Hp w0 F0 F ([.box b1 [v] 42, .own sv 108 3 its.length (its.flatMap icell)] ++ L') w' → FRow (hv w') (fromS sv lo 3) (its.length - lo) 3 ((its.drop lo).flatMap icell) := fun h' => by
              have := fromS_row (h'.row 1 rfl) (i := lo) (by omega)
              rwa [flat_drop icell (fun _ => rfl)] at this
            refine W.seq (W.seq (W.region rfl ?_))
            refine WL.p h Val.mv ?_
            refine WL.p h (Val.len Try.underlying106 rfl (hK (L' := [_]) h).val) ?_
            refine WL.p h Val.mv ?_
            refine WL.nil ?_
            refine W.block ?_
            refine W.loop (I2 w0 F0 F v es b1 b6 i lo sv its a) (its.length - lo) ?_ (fun m2 R w hI => ?_)
            · exact ⟨0, by omega, h, h30, h31, h32, h4, rfl, rfl, rfl, rfl, rfl, rfl⟩
            clear h h30 h31 h32 h4
            obtain ⟨j, hm2, h, h30, h31, h32, h4, h6, h7, h53, h54, h55, h8⟩ := hI
            have hkd : ∀ x ∈ (its.map (·.1)).drop lo, 0 ≤ x.deep ∧ x.deep ≤ 12 := fun x hx => by
              obtain ⟨p, hp, rfl⟩ := List.mem_map.1 (List.mem_of_mem_drop hx)
              exact (hgood p hp).deep
            refine W.seq (W.region rfl ?_)
            refine WL.p h (Val.lt h55 h54) ?_
            refine WL.dec (fun c8 => ?_) (fun c8 => ?_)
            · have hj : j < its.length - lo := by omega
              obtain ⟨p, hp⟩ : ∃ p, (its.drop lo)[j]? = some p := ⟨_, List.getElem?_eq_getElem (by simp; omega)⟩
              have hpm : p ∈ its := List.mem_of_mem_drop (List.mem_of_getElem? hp)
              have hg := hgood p hpm
              have hd := hg.deep
              refine WL.nil ?_
              refine W.seq ?_
              refine W.condT rfl ?_
              refine W.skip ?_
              refine W.seq (W.block ?_)
              refine W.seq (W.region rfl ?_)
              refine WL.p h (Val.ix Try.underlying106 T108 h53 h55 ((hK (L' := [_]) h).slice (by omega)) hj) ?_
              refine WL.p h (Val.ldGS A108 T108 (fun w h => hK (L' := [_]) h) rfl rfl (cs := icell p) (fun q u hq => flat_get icell (fun _ => rfl) _ j q p u hp hq)) ?_
              refine WL.alloc h T108 (fun b9 w h => ?_)
              refine WL.stS 3 h rfl T108 rfl rfl (icell_one hg.rep.one) rfl rfl (fun w h => ?_)
              refine WL.nil ?_
              refine W.region rfl ?_
              refine WL.p h Val.mv ?_
              refine WL.p h (Val.fa O108_1 rfl) ?_
              refine WL.p h (Val.ld 3 A3 rfl rfl rfl) ?_
              refine WL.p h (Val.addi rfl rfl ⟨rfl, by omega, by omega⟩) ?_
              refine WL.p h (Val.max h8 rfl) ?_
              refine WL.p h Val.as ?_
              refine WL.nil ?_
              refine W.region rfl ?_
              refine WL.p h (Val.addi (c := ((j + 1 : Nat) : Int)) h55 rfl (by omega)) ?_
              refine WL.p h Val.mv ?_
              refine WL.nil ?_
              refine ⟨m2 - 1, by omega, j + 1, by omega, h.keep 3, h30, h31, h32, h4, h6, h7, h53, h54, rfl, ?_⟩
              have hp' : ((its.map (·.1)).drop lo)[j]? = some p.1 := by rw [← List.map_drop, List.getElem?_map, hp]; rfl
              have hlt' := (List.getElem?_eq_some_iff.1 hp').1
              rw [List.take_succ_eq_append_getElem hlt', depth_snoc]
              rw [List.getElem?_eq_getElem hlt'] at hp'
              rw [Option.some.inj hp']
              rfl
            · obtain ⟨dd, hdd⟩ : ∃ dd, dd = depthOf 0 ((its.map (·.1)).drop lo) := ⟨_, rfl⟩
              have hdb := depth_bd _ 0 hkd (by omega) (by omega)
              rw [← hdd] at hdb
              have hj : j = its.length - lo := by omega
              have h8 : R 8 = .int .i64 dd := by
                rw [h8, hj, List.take_of_length_le (by simp), hdd]
              refine WL.nil ?_
              refine W.seq ?_
              refine W.condF rfl ?_
              refine W.exit ?_
              refine W.seq (W.region rfl ?_)
              refine WL.p h (Val.fa O79_0 h6) ?_
              refine WL.p h (Val.ld 2 A3 rfl rfl rfl) ?_
              refine WL.p h (Val.build1 rfl (B79k a.k)) ?_
              refine WL.alloc h T79 (fun b11 w h => ?_)
              refine WL.stS 3 h rfl T79 rfl rfl (by simp [Value.oneCell']) rfl rfl (fun w h => ?_)
              refine WL.nil ?_
              refine W.seq (W.region rfl ?_)
              refine WL.p h Val.mv ?_
              refine WL.p h (Val.build1 h8 (B108d dd)) ?_
              refine WL.alloc h T108 (fun b12 w h => ?_)
              refine WL.stS 4 h rfl T108 rfl rfl (by simp [Value.oneCell']) rfl rfl (fun w h => ?_)
              refine WL.nil ?_
              have hstop : valOf a ((its.map (·.1)).drop lo) = none → unpackP es = none := fun e => unpack_stop hrun ha (by rw [stepU_of hc0 (by simpa using hc1)]; simp only [List.length_map, ← hlo, e]; rfl)
              refine W.cut (J4 w0 F0 F v es b1 i lo sv its a dd) (W.seq (W.region rfl ?_)) (fun R w hJ => ?_)
              · refine WL.p h (Val.fa O79_0 h6) ?_
                refine WL.p h (Val.ld 2 A3 rfl rfl rfl) ?_
                refine WL.nil ?_
                refine W.block ?_
                refine W.seq (W.region rfl ?_)
                refine WL.p h (Val.eq rfl rfl) ?_
                refine WL.dec (fun k1 => ?_) (fun k1 => ?_)
                · refine WL.p h Val.as ?_
                  refine WL.nil ?_
                  refine W.condT rfl ?_
                  refine W.skip ?_
                  exact ⟨F, b6, b11, b12, .none, .nilIface, Sub.refl _, h.cast (by simp [want, At.cells, k1]), h30, h31, h32, h4, h6, h8, rfl, rfl, by simp [valOf, k1], rfl⟩
                refine WL.p h Val.as ?_
                refine WL.nil ?_
                refine W.condF rfl ?_
                refine W.seq (W.region rfl ?_)
                refine WL.p h (Val.eq rfl rfl) ?_
                refine WL.dec (fun k2 => ?_) (fun k2 => ?_)
                · refine WL.p h Val.as ?_
                  refine WL.nil ?_
                  refine W.condT rfl ?_
                  refine W.seq (W.seq (W.region rfl ?_))
                  refine WL.p h (Val.fa O79_1 h6) ?_
                  refine WL.p h (Val.ld 2 A2 rfl rfl rfl) ?_
                  refine WL.p h (Val.ne rfl rfl) ?_
                  refine WL.decB (fun q1 => ?_) (fun q1 => ?_)
                  · refine WL.p h Val.mv ?_
                    refine WL.p h (Val.fa O79_1 h6) ?_
                    refine WL.p h (Val.ld 2 A2 rfl rfl rfl) ?_
                    refine WL.p h (Val.ne rfl rfl) ?_
                    refine WL.decB (fun q2 => ?_) (fun q2 => ?_)
                    · refine WL.p h (Val.pick rfl) ?_
                      refine WL.nil ?_
                      refine W.condT rfl ?_
                      refine W.seq (W.region rfl ?_)
                      refine WL.p h Val.as ?_
                      refine WL.p h Val.as ?_
                      refine WL.nil ?_
                      refine W.ret ?_
                      exact fin2 rfl rfl rfl (PU.no h (hstop (by simp at q1 q2; simp [valOf, k2, q1, q2])))
                    · refine WL.p h (Val.pick rfl) ?_
                      refine WL.nil ?_
                      refine W.condF rfl ?_
                      refine W.skip ?_
                      refine W.seq (W.region rfl ?_)
                      refine WL.p h (Val.fa O79_1 h6) ?_
                      refine WL.p h (Val.ld 2 A2 rfl rfl rfl) ?_
                      refine WL.p h (Val.fa O79_1 rfl) ?_
                      refine WL.st 3 (v := .int .i64 a.n) h rfl T2 rfl rfl rfl rfl (fun w h => ?_)
                      refine WL.nil ?_
                      refine W.region rfl ?_
                      refine WL.p h (Val.fa O79_1 h6) ?_
                      refine WL.p h (Val.ld 2 A2 rfl rfl rfl) ?_
                      refine WL.p h (Val.eq rfl rfl) ?_
                      refine WL.p h (Val.mkI (by kernel_rfl) rfl) ?_
                      refine WL.p h (Val.fa O108_0 rfl) ?_
                      refine WL.st 4 (v := .iface 4 (.bool (decide (a.n = 1)))) h rfl T71 rfl rfl rfl rfl (fun w h => ?_)
                      refine WL.nil ?_
                      simp at q1 q2
                      exact ⟨F, b6, b11, b12, .bool (decide (a.n = 1)), _, Sub.refl _, h.cast (by simp [want, At.cells, k2, q2]), h30, h31, h32, h4, h6, h8, rfl, rfl, by simp [valOf, k2, q2], rfl⟩
                  · refine WL.p h Val.mv ?_
                    refine WL.no rfl (WL.no rfl (WL.no rfl (?_)))
                    refine WL.p h (Val.pick rfl) ?_
                    refine WL.nil ?_
                    refine W.condF rfl ?_
                    refine W.skip ?_
                    refine W.seq (W.region rfl ?_)
                    refine WL.p h (Val.fa O79_1 h6) ?_
                    refine WL.p h (Val.ld 2 A2 rfl rfl rfl) ?_
                    refine WL.p h (Val.fa O79_1 rfl) ?_
                    refine WL.st 3 (v := .int .i64 a.n) h rfl T2 rfl rfl rfl rfl (fun w h => ?_)
                    refine WL.nil ?_
                    refine W.region rfl ?_
                    refine WL.p h (Val.fa O79_1 h6) ?_
                    refine WL.p h (Val.ld 2 A2 rfl rfl rfl) ?_
                    refine WL.p h (Val.eq rfl rfl) ?_
                    refine WL.p h (Val.mkI (by kernel_rfl) rfl) ?_
                    refine WL.p h (Val.fa O108_0 rfl) ?_
                    refine WL.st 4 (v := .iface 4 (.bool (decide (a.n = 1)))) h rfl T71 rfl rfl rfl rfl (fun w h => ?_)
                    refine WL.nil ?_
                    simp at q1
                    exact ⟨F, b6, b11, b12, .bool (decide (a.n = 1)), _, Sub.refl _, h.cast (by simp [want, At.cells, k2, q1]), h30, h31, h32, h4, h6, h8, rfl, rfl, by simp [valOf, k2, q1], rfl⟩
                refine WL.p h Val.as ?_
                refine WL.nil ?_
                refine W.condF rfl ?_
                refine W.seq (W.region rfl ?_)
                refine WL.p h (Val.eq rfl rfl) ?_
                refine WL.dec (fun k3 => ?_) (fun k3 => ?_)
                · refine WL.p h Val.as ?_
                  refine WL.nil ?_
                  refine W.condT rfl ?_
                  refine W.seq (W.region rfl ?_)
                  refine WL.p h (Val.fa O79_1 h6) ?_
                  refine WL.p h (Val.ld 2 A2 rfl rfl rfl) ?_
                  refine WL.p h (Val.fa O79_1 rfl) ?_
                  refine WL.st 3 (v := .int .i64 a.n) h rfl T2 rfl rfl rfl rfl (fun w h => ?_)
                  refine WL.nil ?_
                  refine W.region rfl ?_
                  refine WL.p h (Val.fa O79_1 h6) ?_
                  refine WL.p h (Val.ld 2 A2 rfl rfl rfl) ?_
                  refine WL.p h (Val.mkI (by kernel_rfl) rfl) ?_
                  refine WL.p h (Val.fa O108_0 rfl) ?_
                  refine WL.st 4 (v := .iface 2 (.int .i64 a.n)) h rfl T71 rfl rfl rfl rfl (fun w h => ?_)
                  refine WL.nil ?_
                  exact ⟨F, b6, b11, b12, .int a.n, _, Sub.refl _, h.cast (by simp [want, At.cells, k3]), h30, h31, h32, h4, h6, h8, rfl, rfl, by simp [valOf, k3], rfl⟩
                refine WL.p h Val.as ?_
                refine WL.nil ?_
                refine W.condF rfl ?_
                refine W.seq (W.region rfl ?_)
                refine WL.p h (Val.eq rfl rfl) ?_
                refine WL.dec (fun k4 => ?_) (fun k4 => ?_)
                · refine WL.p h Val.as ?_
                  refine WL.nil ?_
                  refine W.condT rfl ?_
                  refine W.seq (W.seq (W.region rfl ?_))
                  refine WL.p h (Val.fa O79_2 h6) ?_
                  refine WL.p h (Val.ld 2 A9 rfl rfl rfl) ?_
                  refine WL.p h (Val.lenStr Try.underlying9 rfl) ?_
                  refine WL.p h (Val.gt rfl rfl) ?_
                  refine WL.dec (fun q1 => ?_) (fun q1 => ?_)
                  · refine WL.nil ?_
                    refine W.condT rfl ?_
                    refine W.seq (W.region rfl ?_)
                    refine WL.p h Val.as ?_
                    refine WL.p h Val.as ?_
                    refine WL.nil ?_
                    refine W.ret ?_
                    exact fin2 rfl rfl rfl (PU.no h (hstop (by simp only [valOf, k4]; simp; omega)))
                  · refine WL.nil ?_
                    refine W.condF rfl ?_
                    refine W.skip ?_
                    refine W.seq (W.region rfl ?_)
                    refine WL.p h (Val.fa O79_2 h6) ?_
                    refine WL.p h (Val.ld 2 A9 rfl rfl rfl) ?_
                    refine WL.p h (Val.fa O79_2 rfl) ?_
                    refine WL.st 3 (v := .string a.t) h rfl T9 rfl rfl rfl rfl (fun w h => ?_)
                    refine WL.nil ?_
                    refine W.region rfl ?_
                    refine WL.p h (Val.fa O79_2 h6) ?_
                    refine WL.p h (Val.ld 2 A9 rfl rfl rfl) ?_
                    refine WL.p h (Val.mkI (by kernel_rfl) rfl) ?_
                    refine WL.p h (Val.fa O108_0 rfl) ?_
                    refine WL.st 4 (v := .iface 9 (.string a.t)) h rfl T71 rfl rfl rfl rfl (fun w h => ?_)
                    refine WL.p h (Val.fa O108_2 rfl) ?_
                    refine WL.st 4 (v := .bool true) h rfl T4 rfl rfl rfl rfl (fun w h => ?_)
                    refine WL.nil ?_
                    exact ⟨F, b6, b11, b12, .text a.t, _, Sub.refl _, h.cast (by simp [want, At.cells, k4]), h30, h31, h32, h4, h6, h8, rfl, rfl, by simp only [valOf, k4]; simp; omega, rfl⟩
                refine WL.p h Val.as ?_
                refine WL.nil ?_
                refine W.condF rfl ?_
                refine W.seq (W.region rfl ?_)
                refine WL.p h (Val.eq rfl rfl) ?_
                refine WL.dec (fun k5 => ?_) (fun k5 => ?_)
                · refine WL.p h Val.as ?_
                  refine WL.nil ?_
                  refine W.condT rfl ?_
                  refine W.seq (W.seq (W.region rfl ?_))
                  refine WL.p h (Val.fa O79_3 h6) ?_
                  refine WL.p h (Val.ld 2 A3 rfl rfl rfl) ?_
                  refine WL.p h (Val.gt rfl rfl) ?_
                  refine WL.dec (fun q1 => ?_) (fun q1 => ?_)
                  · refine WL.nil ?_
                    refine W.condT rfl ?_
                    refine W.seq (W.region rfl ?_)
                    refine WL.p h Val.as ?_
                    refine WL.p h Val.as ?_
                    refine WL.nil ?_
                    refine W.ret ?_
                    exact fin2 rfl rfl rfl (PU.no h (hstop (by simp only [valOf, k5]; simp; omega)))
                  refine WL.nil ?_
                  refine W.condF rfl ?_
                  refine W.skip ?_
                  refine W.seq (W.region rfl ?_)
                  refine WL.p h (Val.fa O79_3 h6) ?_
                  refine WL.p h (Val.ld 2 A3 rfl rfl rfl) ?_
                  refine WL.p h (Val.fa O79_3 rfl) ?_
                  refine WL.st 3 (v := .int .i64 a.c) h rfl T3 rfl rfl rfl rfl (fun w h => ?_)
                  refine WL.nil ?_
                  refine W.seq (W.region rfl ?_)
                  refine WL.bs0 h Try.underlying110 T71 (fun b13 w h => ?_)
                  refine WL.p h Val.as ?_
                  refine WL.nil ?_
                  refine W.seq (W.seq (W.region rfl ?_))
                  refine WL.p h Val.mv ?_
                  refine WL.p h (Val.len Try.underlying106 h7 (hK (L' := [_, _, _, _]) h).val) ?_
                  refine WL.p h Val.mv ?_
                  refine WL.nil ?_
                  refine W.block ?_
                  refine W.loop (I5 w0 F0 F v es b1 b6 b11 b12 i lo sv its a dd) (its.length - lo) ?_ (fun m2 R w hI => ?_)
                  · exact ⟨0, .slice (some ⟨b13, 0, none⟩) 0 0, by omega, h.cast (by simp [want, At.cells, k5]), h30, h31, h32, h4, h6, h8, rfl, rfl, h7, rfl, rfl, rfl⟩
                  clear h h30 h31 h32 h4 h6 h7 h8 h53 h54 h55
                  obtain ⟨j, lv, hm3, h, h30, h31, h32, h4, h6, h8, h11, h12, h124, h125, h126, h13⟩ := hI
                  refine W.seq (W.region rfl ?_)
                  refine WL.p h (Val.lt h126 h125) ?_
                  refine WL.dec (fun c9 => ?_) (fun c9 => ?_)
                  · have hj : j < its.length - lo := by omega
                    obtain ⟨p, hp⟩ : ∃ p, (its.drop lo)[j]? = some p := ⟨_, List.getElem?_eq_getElem (by simp; omega)⟩
                    have hpm : p ∈ its := List.mem_of_mem_drop (List.mem_of_getElem? hp)
                    have hg := hgood p hpm
                    refine WL.nil ?_
                    refine W.seq ?_
                    refine W.condT rfl ?_
                    refine W.skip ?_
                    refine W.seq (W.block ?_)
                    refine W.seq (W.region rfl ?_)
                    refine WL.p h (Val.ix Try.underlying106 T108 h124 h126 ((hK (L' := [_, _, _, _]) h).slice (by omega)) hj) ?_
                    refine WL.p h (Val.ldGS A108 T108 (fun w h => hK (L' := [_, _, _, _]) h) rfl rfl (cs := icell p) (fun q u hq => flat_get icell (fun _ => rfl) _ j q p u hp hq)) ?_
                    refine WL.alloc h T108 (fun b9 w h => ?_)
                    refine WL.stS 6 h rfl T108 rfl rfl (icell_one hg.rep.one) rfl rfl (fun w h => ?_)
                    refine WL.nil ?_
                    refine W.region rfl ?_
                    refine WL.p h Val.mv ?_
                    refine WL.p h (Val.fa O108_0 rfl) ?_
                    refine WL.p h (Val.ld 6 A71 rfl rfl rfl) ?_
                    refine WL.bs1 h Try.underlying110 T71 (by decide) (one_cells hg.rep.one) rfl (fun b10 w h => ?_)
                    refine WL.app 5 h rfl Try.underlying110 T71 (by decide) h13 rfl (news := [p.2]) rfl (box_news h (i := 7) rfl) (fun u hu => by rw [List.mem_singleton.1 hu]; exact hg.rep.one) (by omega) (by omega) (fun lv' w h => ?_)
                    refine WL.p h Val.as ?_
                    refine WL.nil ?_
                    refine W.region rfl ?_
                    refine WL.p h (Val.addi (c := ((j + 1 : Nat) : Int)) h126 rfl (by omega)) ?_
                    refine WL.p h Val.mv ?_
                    refine WL.nil ?_
                    refine ⟨m2 - 1, by omega, j + 1, lv', by omega, (h.keep 6).cast ?_, h30, h31, h32, h4, h6, h8, h11, h12, h124, h125, rfl, rfl⟩
                    have hlt' := (List.getElem?_eq_some_iff.1 hp).1
                    rw [List.take_succ_eq_append_getElem hlt', List.map_append]
                    rw [List.getElem?_eq_getElem hlt'] at hp
                    rw [Option.some.inj hp]
                    rfl
                  · have hj : j = its.length - lo := by omega
                    refine WL.nil ?_
                    refine W.seq ?_
                    refine W.condF rfl ?_
                    refine W.exit ?_
                    refine W.region rfl ?_
                    refine WL.p h Val.mv ?_
                    refine WL.p h (Val.mkI (by kernel_rfl) h13) ?_
                    refine WL.p h (Val.fa O108_0 h12) ?_
                    refine WL.st 4 (v := .iface 110 lv) h rfl T71 rfl rfl rfl rfl (fun w h => ?_)
                    refine WL.nil ?_
                    obtain ⟨F', hs, h, hrow⟩ := h.freezeRow 5 rfl
                    have hlen : (((its.map (·.1)).drop lo).map It.v).length = j := by simp; omega
                    refine ⟨F', b6, b11, b12, .list (((its.map (·.1)).drop lo).map It.v), .iface 110 lv, hs, (h.keep 5).cast (by simp [k5]), h30, h31, h32, h4, h6, h8, h11, h12, by simp only [valOf, k5]; simp; omega, ?_⟩
                    simp only [Rep]
                    refine ⟨lv, _, rfl, by rw [hlen]; exact hrow, ?_⟩
                    rw [hj, List.take_of_length_le (by simp), ← List.map_drop]
                    exact Reps.mono hs _ _ (reps_good _ fun p hp => hgood p (List.mem_of_mem_drop hp))
                refine WL.p h Val.as ?_
                refine WL.nil ?_
                refine W.condF rfl ?_
                refine W.seq (W.region rfl ?_)
                refine WL.p h (Val.eq rfl rfl) ?_
                refine WL.dec (fun k6 => ?_) (fun k6 => ?_)
                · refine WL.p h Val.as ?_
                  refine WL.nil ?_
                  refine W.condT rfl ?_
                  refine W.seq (W.seq (W.region rfl ?_))
                  refine WL.p h (Val.fa O79_3 h6) ?_
                  refine WL.p h (Val.ld 2 A3 rfl rfl rfl) ?_
                  refine WL.p h (Val.rem rfl rfl (by decide)) ?_
                  refine WL.p h (Val.ne rfl rfl) ?_
                  refine WL.dec (fun q1 => ?_) (fun q1 => ?_)
                  · refine WL.p h Val.mv ?_
                    refine WL.no rfl (WL.no rfl (WL.no rfl (WL.no rfl (?_))))
                    refine WL.p h (Val.pick rfl) ?_
                    refine WL.nil ?_
                    refine W.condT rfl ?_
                    refine W.seq (W.region rfl ?_)
                    refine WL.p h Val.as ?_
                    refine WL.p h Val.as ?_
                    refine WL.nil ?_
                    refine W.ret ?_
                    exact fin2 rfl rfl rfl (PU.no h (hstop (by simp only [valOf, k6]; simp; omega)))
                  refine WL.p h Val.mv ?_
                  refine WL.p h (Val.fa O79_3 h6) ?_
                  refine WL.p h (Val.ld 2 A3 rfl rfl rfl) ?_
                  refine WL.p h (Val.quoi (c := a.c / 2) rfl rfl (by decide) (by rw [Int.tdiv_eq_ediv_of_nonneg hc0]; omega)) ?_
                  refine WL.p h (Val.gt rfl rfl) ?_
                  refine WL.dec (fun q2 => ?_) (fun q2 => ?_)
                  · refine WL.p h (Val.pick rfl) ?_
                    refine WL.nil ?_
                    refine W.condT rfl ?_
                    refine W.seq (W.region rfl ?_)
                    refine WL.p h Val.as ?_
                    refine WL.p h Val.as ?_
                    refine WL.nil ?_
                    refine W.ret ?_
                    exact fin2 rfl rfl rfl (PU.no h (hstop (by simp only [valOf, k6, Int.tdiv_eq_ediv_of_nonneg hc0]; simp; omega)))
                  refine WL.p h (Val.pick rfl) ?_
                  refine WL.nil ?_
                  refine W.condF rfl ?_
                  refine W.skip ?_
                  refine W.seq (W.region rfl ?_)
                  refine WL.p h (Val.fa O79_3 h6) ?_
                  refine WL.p h (Val.ld 2 A3 rfl rfl rfl) ?_
                  refine WL.p h (Val.fa O79_3 rfl) ?_
                  refine WL.st 3 (v := .int .i64 a.c) h rfl T3 rfl rfl rfl rfl (fun w h => ?_)
                  refine WL.nil ?_
                  refine W.seq (W.region rfl ?_)
                  refine WL.p h (Val.build0 B112e) ?_
                  refine WL.alloc h T112 (fun b16 w h => ?_)
                  refine WL.stS 5 h rfl T112 rfl rfl (by simp [Value.oneCell']) rfl rfl (fun w h => ?_)
                  refine WL.nil ?_
                  refine W.seq (W.seq (W.region rfl ?_))
                  refine WL.p h Val.as ?_
                  refine WL.nil ?_
                  obtain ⟨q, hq⟩ : ∃ q, its.length - lo = 2 * q := ⟨(its.length - lo) / 2, by rw [Int.tmod_eq_emod_of_nonneg hc0] at q1; omega⟩
                  refine W.block ?_
                  refine W.loop (I6 w0 F0 F v es b1 b6 b11 b12 b16 i lo q sv its a dd) q ?_ (fun m2 R w hI => ?_)
                  · exact ⟨0, .slice none 0 0, .slice none 0 0, [], [], [], by omega, rfl, rfl, rfl, rfl, ((h.nilRow 9 1).nilRow 71 1).cast (by simp [want, At.cells, k6]), h30, h31, h32, h4, h6, h8, rfl, rfl, h7, rfl, rfl⟩
                  clear h h30 h31 h32 h4 h6 h7 h8 h53 h54 h55
                  obtain ⟨j, nv, vv, ns, us, vs, hm3, hns, hvs, hreps, hrec, h, h30, h31, h32, h4, h6, h8, h11, h12, h7, h16, h17⟩ := hI
                  refine W.seq (W.seq (W.region rfl ?_))
                  refine WL.p h Val.mv ?_
                  refine WL.p h Val.mv ?_
                  refine WL.p h (Val.len Try.underlying106 h7 (hK (L' := [_, _, _, _, _, _]) h).val) ?_
                  refine WL.p h (Val.lt h17 rfl) ?_
                  refine WL.dec (fun c9 => ?_) (fun c9 => ?_)
                  · have hj : 2 * j + 1 < its.length - lo := by omega
                    obtain ⟨p, hp⟩ : ∃ p, (its.drop lo)[2 * j]? = some p := ⟨_, List.getElem?_eq_getElem (by simp; omega)⟩
                    obtain ⟨y, hy⟩ : ∃ y, (its.drop lo)[2 * j + 1]? = some y := ⟨_, List.getElem?_eq_getElem (by simp; omega)⟩
                    have hg := hgood p (List.mem_of_mem_drop (List.mem_of_getElem? hp))
                    have hgy := hgood y (List.mem_of_mem_drop (List.mem_of_getElem? hy))
                    have hdr : ((its.map (·.1)).drop lo).drop (2 * j) = p.1 :: y.1 :: ((its.map (·.1)).drop lo).drop (2 * (j + 1)) := by
                      rw [← List.map_drop, ← List.map_drop, ← List.map_drop]
                      have h1 := (List.getElem?_eq_some_iff.1 hp)
                      have h2 := (List.getElem?_eq_some_iff.1 hy)
                      obtain ⟨h1, e1⟩ := h1
                      obtain ⟨h2, e2⟩ := h2
                      rw [List.drop_eq_getElem_cons h1, List.drop_eq_getElem_cons h2, e1, e2]
                      rfl
                    rw [hdr] at hrec
                    refine WL.nil ?_
                    refine W.condT rfl ?_
                    refine W.skip ?_
                    refine W.seq (W.block ?_)
                    refine W.seq (W.seq (W.region rfl ?_))
                    refine WL.p h Val.mv ?_
                    refine WL.p h Val.mv ?_
                    refine WL.p h (Val.ix Try.underlying106 T108 h7 h17 ((hK (L' := [_, _, _, _, _, _]) h).slice (by omega)) (by omega)) ?_
                    refine WL.p h (Val.fa O108_2 rfl) ?_
                    refine WL.p h (Val.ldGf A4 (fun w h => hK (L' := [_, _, _, _, _, _]) h) rfl (flat_get icell (fun _ => rfl) _ (2 * j) 2 p _ hp rfl)) ?_
                    refine WL.p h (Val.not rfl) ?_
                    refine WL.decB (fun q3 => ?_) (fun q3 => ?_)
                    · refine WL.nil ?_
                      refine W.condT rfl ?_
                      refine W.seq (W.region rfl ?_)
                      refine WL.p h Val.as ?_
                      refine WL.p h Val.as ?_
                      refine WL.nil ?_
                      refine W.ret ?_
                      exact fin2 rfl rfl rfl (PU.no h (hstop (by simp only [valOf, k6, hrec, recGo]; simp at q3; simp [q3])))
                    obtain ⟨s, hs⟩ := hg.text (by simpa using q3)
                    have hps : p.2 = .iface 9 (.string s) := by have := hg.rep; rw [hs] at this; exact this
                    have hrec : recGo ((its.map (·.1)).drop lo) [] [] = if ns ≠ [] ∧ leT s (ns.getLastD ⟨#[]⟩) = true then none else recGo (((its.map (·.1)).drop lo).drop (2 * (j + 1))) (ns ++ [s]) (vs ++ [y.1.v]) := by
                      rw [hrec, recGo, if_neg (by simpa using q3), hs]
                    refine WL.nil ?_
                    refine W.condF rfl ?_
                    refine W.skip ?_
                    refine W.seq (W.region rfl ?_)
                    refine WL.p h Val.mv ?_
                    refine WL.p h Val.mv ?_
                    refine WL.p h (Val.ix Try.underlying106 T108 h7 h17 ((hK (L' := [_, _, _, _, _, _]) h).slice (by omega)) (by omega)) ?_
                    refine WL.p h (Val.fa O108_0 rfl) ?_
                    refine WL.p h (Val.ldGf A71 (fun w h => hK (L' := [_, _, _, _, _, _]) h) rfl (flat_get icell (fun _ => rfl) _ (2 * j) 0 p _ hp rfl)) ?_
                    refine WL.p h (Val.ta1 N9 hps) ?_
                    refine WL.p h Val.as ?_
                    refine WL.nil ?_
                    refine W.cut (J6 w0 F0 F v es b1 b6 b11 b12 b16 i lo j sv its a dd nv vv ns us s) (W.seq (W.region rfl ?_)) (fun R w hJ => ?_)
                    · refine WL.p h Val.mv ?_
                      refine WL.p h (Val.gt h17 rfl) ?_
                      refine WL.dec (fun q4 => ?_) (fun q4 => ?_)
                      · refine WL.p h Val.mv ?_
                        refine WL.p h Val.mv ?_
                        refine WL.p h (Val.fa O112_0 h16) ?_
                        refine WL.p h (Val.ld 5 A24 rfl rfl rfl) ?_
                        refine WL.p h (Val.fa O112_0 h16) ?_
                        refine WL.p h (Val.ld 5 A24 rfl rfl rfl) ?_
                        refine WL.p h (Val.len Try.underlying24 rfl (h.row 6 rfl).val) ?_
                        refine WL.p h (Val.subi (c := ((j - 1 : Nat) : Int)) rfl rfl (by omega)) ?_
                        have hlast : ns[j - 1]? = some (ns.getLastD ⟨#[]⟩) := by
                          have : ns ≠ [] := by intro e; rw [e] at hns; simp at hns; omega
                          rw [← hns, ← List.getLast?_eq_getElem?, List.getLast?_eq_some_getLast this, List.getLastD_eq_getLast?, List.getLast?_eq_some_getLast this]; rfl
                        have hne : ns ≠ [] := by intro e; rw [e] at hns; simp at hns; omega
                        refine WL.p h (Val.ix Try.underlying24 T9 rfl rfl ((h.row 6 rfl).slice (by omega)) (by omega)) ?_
                        refine WL.p h (Val.ldO 6 A9 rfl rfl (u := .string (ns.getLastD ⟨#[]⟩)) (by rw [Nat.mul_one, List.getElem?_map, hlast]; rfl)) ?_
                        refine WL.p h (Val.strLe rfl rfl) ?_
                        refine WL.decB (fun q5 => ?_) (fun q5 => ?_)
                        · refine WL.p h (Val.pick rfl) ?_
                          refine WL.nil ?_
                          refine W.condT rfl ?_
                          have hr0 : recGo ((its.map (·.1)).drop lo) [] [] = none := by rw [hrec, if_pos ⟨hne, q5⟩]
                          refine W.seq (W.region rfl ?_)
                          refine WL.p h Val.as ?_
                          refine WL.p h Val.as ?_
                          refine WL.nil ?_
                          refine W.ret ?_
                          exact fin2 rfl rfl rfl (PU.no h (hstop (by simp [valOf, k6, hr0])))
                        · refine WL.p h (Val.pick rfl) ?_
                          refine WL.nil ?_
                          refine W.condF rfl ?_
                          refine W.skip ?_
                          exact ⟨fun e => (by have := e.2; rw [leT, q5] at this; cases this), h, h30, h31, h32, h4, h6, h8, h11, h12, h7, h16, h17, rfl⟩
                      · refine WL.p h Val.mv ?_
                        refine WL.no rfl (WL.no rfl (WL.no rfl (WL.no rfl (WL.no rfl (WL.no rfl (WL.no rfl (WL.no rfl (WL.no rfl (WL.no rfl (?_))))))))))
                        refine WL.p h (Val.pick rfl) ?_
                        refine WL.nil ?_
                        refine W.condF rfl ?_
                        refine W.skip ?_
                        exact ⟨fun e => e.1 (List.eq_nil_of_length_eq_zero (by omega)), h, h30, h31, h32, h4, h6, h8, h11, h12, h7, h16, h17, rfl⟩
                    clear h h30 h31 h32 h4 h6 h7 h8 h11 h12 h16 h17
                    obtain ⟨hno, h, h30, h31, h32, h4, h6, h8, h11, h12, h7, h16, h17, h18⟩ := hJ
                    rw [if_neg hno] at hrec
                    refine W.seq (W.region rfl ?_)
                    refine WL.p h (Val.fa O112_0 h16) ?_
                    refine WL.p h (Val.ld 5 A24 rfl rfl rfl) ?_
                    refine WL.p h Val.mv ?_
                    refine WL.bs1 h Try.underlying24 T9 (by decide) (cs := [.string s]) (by simp only [ev, updO, upd, h18]; rfl) rfl (fun b8 w h => ?_)
                    refine WL.app 6 h rfl Try.underlying24 T9 (by decide) rfl rfl (news := [.string s]) rfl (box_news h (i := 8) rfl) (fun u hu => by rw [List.mem_singleton.1 hu]; rfl) (by omega) (by omega) (fun nv' w h => ?_)
                    refine WL.p h (Val.fa O112_0 h16) ?_
                    refine WL.st 5 (v := nv') h rfl T24 rfl rfl (h.own1 6 rfl) rfl (fun w h => ?_)
                    refine WL.nil ?_
                    have h := h.keep 8
                    refine W.draw (fun w => Hp w0 F0 F [.box b1 [v] 42, .own sv 108 3 its.length (its.flatMap icell), .box b6 a.cells 79, .box b11 (want a).cells 79, .box b12 [.nilIface, .int .i64 dd, .bool false] 108, .box b16 [nv', vv] 112, .dead, .dead] w) [11] 12 (by kernel_rfl) rfl rfl ?_
                    have h := h.drewN 1
                    have hS := (h.kill 6).kill 7
                    refine WD.take 0 rfl (by kernel_rfl) (fun _ _ _ h => fin_panic h) hS (Val.fa O112_1 h16) ?_
                    refine WD.take 1 rfl (by kernel_rfl) (fun _ _ _ h => fin_panic h) hS (Val.ld 5 A109 rfl rfl rfl) ?_
                    refine WD.take 2 rfl (by kernel_rfl) (fun _ _ _ h => fin_panic h) hS Val.mv ?_
                    refine WD.take 3 rfl (by kernel_rfl) (fun _ _ _ h => fin_panic h) hS Val.mv ?_
                    refine WD.take 4 rfl (by kernel_rfl) (fun _ _ _ h => fin_panic h) hS (Val.addi (c := ((2 * j + 1 : Nat) : Int)) h17 rfl (by omega)) ?_
                    refine WD.take 5 rfl (by kernel_rfl) (fun _ _ _ h => fin_panic h) hS (Val.ix Try.underlying106 T108 h7 rfl ((hK (L' := [_, _, _, _, _, _]) hS).slice (by omega)) (by omega)) ?_
                    refine WD.take 6 rfl (by kernel_rfl) (fun _ _ _ h => fin_panic h) hS (Val.fa O108_0 rfl) ?_
                    refine WD.take 7 rfl (by kernel_rfl) (fun _ _ _ h => fin_panic h) hS (Val.ldGf A71 (fun w h => hK (L' := [_, _, _, _, _, _]) h) rfl (flat_get icell (fun _ => rfl) _ (2 * j + 1) 0 y _ hy rfl)) ?_
                    refine WD.one 8 rfl (by kernel_rfl) ?_
                    refine WL.bs1 h Try.underlying109 T71 (by decide) (one_cells hgy.rep.one) rfl (fun b9 w h => ?_)
                    refine WL.nil ?_
                    refine ⟨((h.kill 6).kill 7).keep 8, ?_⟩
                    refine WD.one 9 rfl (by kernel_rfl) ?_
                    refine WL.app 7 h rfl Try.underlying109 T71 (by decide) rfl rfl (news := [y.2]) rfl (box_news h (i := 8) rfl) (fun u hu => by rw [List.mem_singleton.1 hu]; exact hgy.rep.one) (by omega) (by omega) (fun vv' w h => ?_)
                    refine WL.nil ?_
                    refine ⟨((h.kill 6).kill 7).keep 8, ?_⟩
                    have hS := ((h.kill 6).kill 7).keep 8
                    refine WD.take 10 rfl (by kernel_rfl) (fun _ _ _ h => fin_panic h) hS (Val.fa O112_1 h16) ?_
                    refine WD.last 11 rfl (by kernel_rfl) rfl ?_
                    refine WL.st 5 (v := vv') h rfl T109 rfl rfl (h.own1 7 rfl) rfl (fun w h => ?_)
                    refine WL.nil ?_
                    refine WD.nil (by kernel_rfl) ?_
                    refine W.region rfl ?_
                    refine WL.p h Val.mv ?_
                    refine WL.p h (Val.addi (c := ((2 * (j + 1) : Nat) : Int)) h17 rfl (by omega)) ?_
                    refine WL.p h Val.as ?_
                    refine WL.nil ?_
                    exact ⟨m2 - 1, by omega, j + 1, nv', vv', ns ++ [s], us ++ [y.2], vs ++ [y.1.v], by omega, by simp [hns], by simp [hvs], hreps.snoc hgy.rep, hrec, (h.keep 8).cast (by simp), h30, h31, h32, h4, h6, h8, h11, h12, h7, h16, rfl⟩
                  · have hj : j = q := by omega
                    refine WL.nil ?_
                    refine W.condF rfl ?_
                    refine W.exit ?_
                    refine W.region rfl ?_
                    refine WL.p h (Val.ldS 5 A112 T112 rfl h16 rfl) ?_
                    refine WL.p h (Val.mkI (by kernel_rfl) rfl) ?_
                    refine WL.p h (Val.fa O108_0 h12) ?_
                    refine WL.st 4 (v := .iface 112 (.agg #[nv, vv])) h rfl T71 rfl rfl rfl rfl (fun w h => ?_)
                    refine WL.nil ?_
                    obtain ⟨F1, hs1, h, hrow1⟩ := h.freezeRow 6 rfl
                    obtain ⟨F2, hs2, h, hrow2⟩ := h.freezeRow 7 rfl
                    have hend : ((its.map (·.1)).drop lo).drop (2 * j) = [] := by rw [List.drop_eq_nil_iff]; simp; omega
                    rw [hend] at hrec
                    have hs := hs1.trans hs2
                    refine ⟨F2, b6, b11, b12, .record ns vs, .iface 112 (.agg #[nv, vv]), hs, (h.keep 5).cast (by simp [k6]), h30, h31, h32, h4, h6, h8, h11, h12, by simp only [valOf, k6, hrec, recGo, Int.tdiv_eq_ediv_of_nonneg hc0]; simp; omega, ?_⟩
                    simp only [Rep]
                    exact ⟨nv, vv, us, rfl, by omega, by rw [hns]; exact hrow1.mono hs2, by rw [hvs]; exact hrow2, Reps.mono hs _ _ hreps⟩
                refine WL.p h Val.as ?_
                refine WL.nil ?_
                refine W.condF rfl ?_
                refine W.seq (W.region rfl ?_)
                refine WL.p h Val.as ?_
                refine WL.p h Val.as ?_
                refine WL.nil ?_
                refine W.ret ?_
                exact fin2 rfl rfl rfl (PU.no h (hstop (by simp [valOf, k1, k2, k3, k4, k5, k6])))
              · clear h h30 h31 h32 h4 h6 h7 h8 h53 h54 h55
                obtain ⟨F', b6, b11, b12, x, u, hsF, h, h30, h31, h32, h4, h6, h8, h11, h12, hval, hrep⟩ := hJ
                have hst := stepU_of (st := its.map (·.1)) hc0 (by simpa using hc1)
                simp only [List.length_map, ← hlo, hval, Option.bind_some, ← hdd] at hst
                refine W.seq (W.seq (W.region rfl ?_))
                refine WL.p h (Val.ldS 3 A79 T79 rfl h11 rfl) ?_
                refine WL.p h (Val.ldS 2 A79 T79 rfl h6 rfl) ?_
                refine WL.p h (Val.atNe rfl rfl) ?_
                refine WL.dec (fun q1 => ?_) (fun q1 => ?_)
                · refine WL.p h Val.mv ?_
                  refine WL.no rfl (WL.no rfl (?_))
                  refine WL.p h (Val.pick rfl) ?_
                  refine WL.nil ?_
                  refine W.condT rfl ?_
                  refine W.seq (W.region rfl ?_)
                  refine WL.p h Val.as ?_
                  refine WL.p h Val.as ?_
                  refine WL.nil ?_
                  refine W.ret ?_
                  exact fin2 rfl rfl rfl (PU.no h (unpack_stop hrun ha (by rw [hst, if_pos (.inl q1)])))
                refine WL.p h Val.mv ?_
                refine WL.p h Val.mv ?_
                refine WL.p h (Val.gt h8 rfl) ?_
                refine WL.dec (fun q2 => ?_) (fun q2 => ?_)
                · refine WL.p h (Val.pick rfl) ?_
                  refine WL.nil ?_
                  refine W.condT rfl ?_
                  refine W.seq (W.region rfl ?_)
                  refine WL.p h Val.as ?_
                  refine WL.p h Val.as ?_
                  refine WL.nil ?_
                  refine W.ret ?_
                  exact fin2 rfl rfl rfl (PU.no h (unpack_stop hrun ha (by rw [hst, if_pos (.inr q2)])))
                refine WL.p h (Val.pick rfl) ?_
                refine WL.nil ?_
                refine W.condF rfl ?_
                refine W.skip ?_
                rw [if_neg (by intro e; rcases e with e | e; exact q1 e; exact q2 e)] at hst
                refine W.draw (fun w => Hp w0 F0 F' [.box b1 [v] 42, .dead, .box b6 a.cells 79, .box b11 (want a).cells 79, .box b12 [u, .int .i64 dd, .bool (decide (a.k = 4))] 108] w) [] 11 (by kernel_rfl) rfl rfl ?_
                have h := h.drewN 1
                have hS := h.kill 1
                have hv4 := (h.row 1 rfl).val
                refine WD.take 0 rfl (by kernel_rfl) (fun _ _ _ h => fin_panic h) hS Val.mv ?_
                refine WD.take 1 rfl (by kernel_rfl) (fun _ _ _ h => fin_panic h) hS Val.mv ?_
                refine WD.take 2 rfl (by kernel_rfl) (fun _ _ _ h => fin_panic h) hS (Val.len Try.underlying106 h4 hv4) ?_
                refine WD.take 3 rfl (by kernel_rfl) (fun _ _ _ h => fin_panic h) hS (Val.fa O79_3 h6) ?_
                refine WD.take 4 rfl (by kernel_rfl) (fun _ _ _ h => fin_panic h) hS (Val.ld 2 A3 rfl rfl rfl) ?_
                refine WD.take 5 rfl (by kernel_rfl) (fun _ _ _ h => fin_panic h) hS (Val.subi (c := (lo : Int)) rfl rfl (by omega)) ?_
                refine WD.take 6 rfl (by kernel_rfl) (fun _ _ _ h => fin_panic h) hS (Val.slToV Try.underlying106 T108 h4 rfl hv4 (by omega)) ?_
                refine WD.take 7 rfl (by kernel_rfl) (fun _ _ _ h => fin_panic h) hS (Val.ldS 4 A108 T108 rfl h12 rfl) ?_
                refine WD.one 8 rfl (by kernel_rfl) ?_
                refine WL.bs1 h Try.underlying106 T108 (by decide) (cs := [u, .int .i64 dd, .bool (decide (a.k = 4))]) rfl rfl (fun b9 w h => ?_)
                refine WL.nil ?_
                refine ⟨(h.kill 1).keep 5, ?_⟩
                refine WD.one 9 rfl (by kernel_rfl) ?_
                have h := h.head 1 rfl (k := lo) (by omega)
                refine WL.app 1 h rfl Try.underlying106 T108 (by decide) rfl rfl (news := [u, .int .i64 dd, .bool (decide (a.k = 4))]) rfl (box_news h (i := 5) rfl) (icell_one (p := (⟨x, dd, decide (a.k = 4)⟩, u)) hrep.one) (by omega) (by omega) (fun sv' w h => ?_)
                refine WL.nil ?_
                have hS := (h.kill 1).keep 5
                refine ⟨hS, ?_⟩
                refine WD.take 10 rfl (by kernel_rfl) (fun _ _ _ h => fin_panic h) hS Val.as ?_
                refine WD.nil (by kernel_rfl) ?_
                refine W.region rfl ?_
                refine WL.p h (Val.addi (c := ((i + 1 : Nat) : Int)) h32 rfl (by omega)) ?_
                refine WL.p h Val.mv ?_
                refine WL.nil ?_
                refine ⟨m - 1, by omega, i + 1, F', sv', its.take lo ++ [(⟨x, dd, decide (a.k = 4)⟩, u)], by omega, by simp; omega, (h.keep 2).cast ?_, h30, h31, rfl, rfl, ?_, ?_⟩
                · have e1 : (its.take lo ++ [((⟨x, dd, decide (a.k = 4)⟩ : It), u)]).length = lo + 1 := by simp; omega
                  rw [e1, List.flatMap_append, ← flat_take (sz := 3) icell (fun _ => rfl)]
                  rfl
                · rw [run_next hrun ha hst]; simp
                · intro p hp
                  rcases List.mem_append.1 hp with hp | hp
                  · exact (hgood p (List.mem_of_mem_take hp)).mono hsF
                  · rw [List.mem_singleton.1 hp]
                    refine ⟨hrep, fun e => ?_, by simp; omega⟩
                    have hk4 : a.k = 4 := by simpa using e
                    simp only [valOf, hk4] at hval
                    by_cases ht : a.t.size > 1000
                    · simp [ht] at hval
                    · simp [ht] at hval; exact ⟨_, hval.symm⟩
      · have hi : i = es.length := by omega
        subst hi
        rw [List.take_of_length_le (by omega)] at hrun
        have hun : unpackP es = match (its.map (·.1)) with | [x] => some x.v | _ => none := by
          unfold unpackP
          rw [if_neg (by omega), hrun]
          generalize List.map (fun x : It × Value => x.1) its = l
          rcases l with _ | ⟨x, _ | ⟨y, r⟩⟩ <;> rfl
        refine WL.nil ?_
        refine W.seq ?_
        refine W.condF rfl ?_
        refine W.exit ?_
        refine W.seq (W.seq (W.region rfl ?_))
        refine WL.p h Val.mv ?_
        refine WL.p h (Val.len Try.underlying106 h4 (h.row 1 rfl).val) ?_
        refine WL.p h (Val.ne rfl rfl) ?_
        refine WL.dec (fun q1 => ?_) (fun q1 => ?_)
        · refine WL.nil ?_
          refine W.condT rfl ?_
          refine W.seq (W.region rfl ?_)
          refine WL.p h Val.as ?_
          refine WL.p h Val.as ?_
          refine WL.nil ?_
          refine W.ret ?_
          exact fin2 rfl rfl rfl (PU.no h (by rw [hun]; match its, q1 with | [], _ => rfl | [x], q1 => exact absurd rfl q1 | x :: y :: r, _ => rfl))
        refine WL.nil ?_
        refine W.condF rfl ?_
        refine W.skip ?_
        obtain ⟨p, rfl⟩ : ∃ p, its = [p] := List.length_eq_one_iff.1 (by simp at q1; omega)
        refine W.seq (W.region rfl ?_)
        refine WL.p h Val.mv ?_
        refine WL.p h (Val.ix (i := 0) Try.underlying106 T108 h4 rfl ((h.row 1 rfl).slice (by simp)) (by simp)) ?_
        refine WL.p h (Val.fa O108_0 rfl) ?_
        refine WL.p h (Val.ldOf 1 A71 rfl rfl (u := p.2) rfl) ?_
        refine WL.p h Val.as ?_
        refine WL.p h Val.as ?_
        refine WL.nil ?_
        refine W.ret ?_
        refine fin2 rfl rfl rfl ⟨F, p.2, true, rfl, h.toExt, ?_⟩
        rw [hun]
        exact ⟨rfl, (hgood p (by simp)).rep⟩
end Go.Proofs.Ytmiihhbgfijcmaa.K

