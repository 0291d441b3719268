/- Put together from Sp, Sx, Ap, So, Sl. -/
import Derived.Test.YtmiihhbgfijcmaaPm
import Derived.Test.YtmiihhbgfijcmaaNw
/- Op: the reference's helpers walked. -/
namespace Go.Proofs.Ytmiihhbgfijcmaa.K
open Go Go.RowKit
set_option linter.unusedVariables false
set_option linter.unusedSimpArgs false
set_option maxRecDepth 20000
theorem C83 : CF Try.prog 83 := ⟨_, Try.func83, rfl, rfl⟩
theorem C84 : CF Try.prog 84 := ⟨_, Try.func84, rfl, rfl⟩
theorem C85 : CF Try.prog 85 := ⟨_, Try.func85, rfl, rfl⟩
theorem C58 : CF Try.prog 58 := ⟨_, Try.func58, rfl, rfl⟩
theorem C59 : CF Try.prog 59 := ⟨_, Try.func59, rfl, rfl⟩
theorem C33' : CF Try.prog 33 := ⟨_, Try.func33, rfl, rfl⟩
theorem Val.fldA {P : Program} {S : World → Prop} {R : Regs} {d : Option Nat} {ty : TypeId} {pos : String} {af : Array Edge} {g : Option (Nat × Bool)} {s f off : Nat} {x : Operand} {cells : Array Value} {v : Value} (hf : FE P s f off) (hx : ev R x = .agg cells) (hv : cells[off]? = some v) : Val P S R ⟨d, .field s x f, ty, pos, af, g⟩ v := fun w _ => by
  simp only [execOp, hx, Sem.run_bind, hf cells v w hv, Result.andThen_ok, Sem.run_pure]
/-! ### A text in a text -/
theorem ext_list (s : ByteArray) (i n : Nat) : (s.extract i (i + n)).data.toList = (s.data.toList.drop i).take n := by
  simp [ByteArray.data_extract, Array.toList_extract]
theorem occ_iff (s x : ByteArray) (i : Nat) : Lib.occAt s.data.toList x.data.toList i = decide (s.extract i (i + x.size) = x) := by
  have e : s.extract i (i + x.size) = x ↔ (s.data.toList.drop i).take x.size = x.data.toList := by
    rw [← ba_list, ext_list]
  have hl : x.size = x.data.toList.length := by simp
  unfold Lib.occAt
  by_cases h : x.data.toList.isPrefixOf (s.data.toList.drop i) = true
  · rw [h]
    have hp := List.isPrefixOf_iff_prefix.1 h
    rw [eq_comm, decide_eq_true_eq, e, hl]
    exact (List.prefix_iff_eq_take.1 hp).symm
  · have hf : x.data.toList.isPrefixOf (s.data.toList.drop i) = false := Bool.eq_false_iff.2 h
    rw [hf, eq_comm, decide_eq_false_iff_not, e]
    intro h'
    exact h (List.isPrefixOf_iff_prefix.2 (List.prefix_iff_eq_take.2 (by rw [← hl]; exact h'.symm)))
theorem l6In_calls (F : Fz) (w0 : World) (hF : Sub F (hv w0)) (s x : ByteArray) (hs : s.size ≤ 1048576) (hx : x.size ≤ 1048576) : Calls Try.prog 83 #[.string s, .string x, .int .i64 0] w0 fun e w' => ∃ r : Int, e = .returned (.int .i64 r) ∧ (0 ≤ r ↔ Lib.contains s.data.toList x.data.toList = true) ∧ Ext F w0 F w' := by
  refine calls 28 Try.func83 rfl rfl rfl ?_
  have h := Hp.start hF
  have hls : s.data.toList.length = s.size := by simp
  have hlx : x.data.toList.length = x.size := by simp
  refine W.seq (W.region rfl ?_)
  refine WL.p h Val.as ?_
  refine WL.nil ?_
  refine W.seq (W.seq (W.region rfl ?_))
  refine WL.p h Val.mv ?_
  refine WL.p h Val.as ?_
  refine WL.nil ?_
  refine W.block ?_
  refine W.loop (fun m R w => ∃ i : Nat, m + i = s.size + 1 ∧ Hp w0 F F [] w ∧ (∀ j, j < i → Lib.occAt s.data.toList x.data.toList j = false) ∧ R 0 = .string s ∧ R 1 = .string x ∧ R 7 = .int .i64 (i : Int)) (s.size + 1) ⟨0, by omega, h, fun j hj => by omega, rfl, rfl, rfl⟩ (fun m R w hI => ?_)
  clear h
  obtain ⟨i, hm, h, hno, h0, h1, h7⟩ := hI
  refine W.seq (W.seq (W.region rfl ?_))
  refine WL.p h Val.mv ?_
  refine WL.p h Val.mv ?_
  refine WL.p h (Val.lenStr Try.underlying9 h1) ?_
  refine WL.p h (Val.addi (c := ((i + x.size : Nat) : Int)) h7 rfl (by omega)) ?_
  refine WL.p h Val.mv ?_
  refine WL.p h (Val.lenStr Try.underlying9 h0) ?_
  refine WL.p h (Val.le rfl rfl) ?_
  refine WL.dec (fun c1 => ?_) (fun c1 => ?_)
  · refine WL.nil ?_
    refine W.condT rfl ?_
    refine W.skip ?_
    refine W.seq (W.block ?_)
    refine W.seq (W.region rfl ?_)
    refine WL.p h Val.mv ?_
    refine WL.p h Val.mv ?_
    refine WL.p h Val.mv ?_
    refine WL.p h Val.mv ?_
    refine WL.p h (Val.lenStr Try.underlying9 h1) ?_
    refine WL.p h (Val.addi (c := ((i + x.size : Nat) : Int)) h7 rfl (by omega)) ?_
    refine WL.p h (Val.slStr (lo := i) (hi := i + x.size) Try.underlying9 h0 h7 rfl (by omega) (by omega)) ?_
    refine WL.p h Val.mv ?_
    refine WL.p h (Val.sEq rfl h1) ?_
    have ho := occ_iff s x i
    refine WL.dec (fun c2 => ?_) (fun c2 => ?_)
    · refine WL.nil ?_
      refine W.condT rfl ?_
      refine W.seq (W.region rfl ?_)
      refine WL.p h Val.mv ?_
      refine WL.p h Val.as ?_
      refine WL.nil ?_
      refine W.ret ?_
      rw [decide_eq_true c2] at ho
      have hix := Lib.index_first (s := s.data.toList) (sub := x.data.toList) (i := i) (by omega) ho hno
      exact fin1 (v := .int .i64 (i : Int)) rfl h7 ⟨_, rfl, iff_of_true (by omega) (by rw [Lib.contains, hix]; simp), h.toExt⟩
    · refine WL.nil ?_
      refine W.condF rfl ?_
      refine W.skip ?_
      refine W.region rfl ?_
      refine WL.p h Val.mv ?_
      refine WL.p h (Val.addi (c := ((i + 1 : Nat) : Int)) h7 rfl (by omega)) ?_
      refine WL.p h Val.as ?_
      refine WL.nil ?_
      rw [decide_eq_false c2] at ho
      exact ⟨m - 1, by omega, i + 1, by omega, h, fun j hj => by
        by_cases e : j = i
        · subst e; exact ho
        · exact hno j (by omega), h0, h1, rfl⟩
  · refine WL.nil ?_
    refine W.condF rfl ?_
    refine W.exit ?_
    refine W.seq (W.region rfl ?_)
    refine WL.p h Val.as ?_
    refine WL.nil ?_
    refine W.ret ?_
    have hall : ∀ j, j ≤ s.data.toList.length → Lib.occAt s.data.toList x.data.toList j = false := fun j hj => by
      by_cases e : j < i
      · exact hno j e
      · cases ho : Lib.occAt s.data.toList x.data.toList j with
        | false => rfl
        | true =>
          exfalso
          rcases Lib.occAt_room ho with hr | hr
          · omega
          · have h0' := hno 0 (by rw [hr] at hlx; simp at hlx; omega)
            rw [hr] at h0'
            simp [Lib.occAt] at h0'
    have hix := Lib.index_none hall
    exact fin1 (v := .int .i64 (-1)) rfl rfl ⟨_, rfl, iff_of_false (by omega) (by rw [Lib.contains, hix]; simp), h.toExt⟩
/-! ### What a record names -/
def getT : List T → ByteArray → Option T
  | x :: y :: r, s => if x.atom.t = s then some y else getT r s
  | _, _ => none
theorem getT_step {ks : List T} {j : Nat} {x y : T} (s : ByteArray) (hx : ks[2 * j]? = some x) (hy : ks[2 * j + 1]? = some y) : getT (ks.drop (2 * j)) s = if x.atom.t = s then some y else getT (ks.drop (2 * (j + 1))) s := by
  obtain ⟨l1, e1⟩ := List.getElem?_eq_some_iff.1 hx
  obtain ⟨l2, e2⟩ := List.getElem?_eq_some_iff.1 hy
  rw [List.drop_eq_getElem_cons l1, List.drop_eq_getElem_cons l2, e1, e2, getT]
  rfl
def PGet (F : Fz) (w0 : World) (ks : List T) (name : ByteArray) (e : Ending) (w : World) : Prop :=
  ∃ F' s b, e = .returned (.tuple #[.agg #[s], .bool b]) ∧ Ext F w0 F' w ∧ s.oneCell' = true ∧ b = (getT ks name).isSome ∧ ∀ x, getT ks name = some x → FRow F' s x.enc.length 4 (rowA x.enc)
theorem l5Get_calls (F : Fz) (w0 : World) (hF : Sub F (hv w0)) (v : Value) (t : T) (q : Nat) (ht : t.Wf) (hr : FRow F v t.enc.length 4 (rowA t.enc)) (hB : t.enc.length ≤ 1048576) (hq : t.kids.length = 2 * q) (name : ByteArray) : Calls Try.prog 84 #[.agg #[v], .string name] w0 (PGet F w0 t.kids name) := by
  refine calls 35 Try.func84 rfl rfl rfl ?_
  have h := Hp.start hF
  have hkl : t.kids.length ≤ 1048576 := by
    have := encs_ge t.kids
    have e := enc_eq t
    rw [e] at hB
    simp at hB; omega
  refine W.seq (W.region rfl ?_)
  refine WL.box h rfl (fun b2 w h => ?_)
  refine WL.alloc h T42 (fun b4 w h => ?_)
  refine WL.p h Val.as ?_
  refine WL.nil ?_
  refine W.seq (W.region rfl ?_)
  refine WL.p h (Val.ldS 0 A42 T42 rfl rfl rfl) ?_
  refine WL.call C69 (args := [.agg #[v]]) rfl ((l5Kids_calls F w h.sub v _ hr hB).mono ?_)
  rintro e w' ⟨F1, u, us, ok, rfl, hE, hk⟩
  rw [kidsP_enc t ht] at hk
  obtain ⟨rfl, hrow, hkr⟩ := hk
  have h := h.call hE
  refine ⟨_, rfl, ?_⟩
  refine WL.p h Val.mv ?_
  refine WL.p h (Val.ext (v := u) rfl rfl) ?_
  refine WL.p h (Val.ext (v := .bool true) rfl rfl) ?_
  refine WL.p h Val.as ?_
  refine WL.p h Val.as ?_
  refine WL.nil ?_
  refine W.seq (W.seq (W.region rfl ?_))
  refine WL.p h Val.as ?_
  refine WL.nil ?_
  refine W.block ?_
  refine W.loop (fun m R w => ∃ j, m + j = q ∧ Hp w0 F F1 [.box b2 [v] 42, .box b4 [.slice none 0 0] 42] w ∧ getT (t.kids.drop (2 * j)) name = getT t.kids name ∧ R 1 = .string name ∧ R 4 = pt b4 ∧ R 6 = u ∧ R 8 = .int .i64 ((2 * j : Nat) : Int)) q ⟨0, by omega, h, by simp, rfl, rfl, rfl, rfl⟩ (fun m R w hI => ?_)
  clear h
  obtain ⟨j, hm, h, hg, h1, h4, h6, h8⟩ := hI
  refine W.seq (W.seq (W.region rfl ?_))
  refine WL.p h Val.mv ?_
  refine WL.p h (Val.addi (c := ((2 * j + 1 : Nat) : Int)) h8 rfl (by omega)) ?_
  refine WL.p h Val.mv ?_
  refine WL.p h (Val.len Try.underlying102 h6 hrow.val) ?_
  refine WL.p h (Val.lt rfl rfl) ?_
  refine WL.dec (fun c1 => ?_) (fun c1 => ?_)
  · obtain ⟨x, hx⟩ : ∃ x, t.kids[2 * j]? = some x := ⟨_, List.getElem?_eq_getElem (by omega)⟩
    obtain ⟨y, hy⟩ : ∃ y, t.kids[2 * j + 1]? = some y := ⟨_, List.getElem?_eq_getElem (by omega)⟩
    obtain ⟨s1, hs1, hr1⟩ := hkr.get _ x hx
    obtain ⟨s2, hs2, hr2⟩ := hkr.get _ y hy
    rw [getT_step name hx hy] at hg
    refine WL.nil ?_
    refine W.condT rfl ?_
    refine W.skip ?_
    refine W.seq (W.block ?_)
    refine W.seq (W.region rfl ?_)
    refine WL.p h Val.mv ?_
    refine WL.p h Val.mv ?_
    refine WL.p h (Val.ix (i := 2 * j) Try.underlying102 T42 h6 h8 (hrow.slice (by omega)) (by omega)) ?_
    refine WL.p h (Val.ldRS A42 T42 hrow rfl (cs := [s1]) rfl (one_cell hs1)) ?_
    refine WL.call C48 (args := [.agg #[s1]]) rfl ((l5Last_calls F1 _ h.sub s1 x.enc hr1 x.atom (enc_last x)).mono ?_)
    rintro e w' ⟨rfl, hE⟩
    have h := h.call hE
    refine ⟨_, rfl, ?_⟩
    refine WL.p h (Val.fld E79_2 rfl rfl) ?_
    refine WL.p h Val.mv ?_
    refine WL.p h (Val.sEq rfl h1) ?_
    refine WL.dec (fun c2 => ?_) (fun c2 => ?_)
    · rw [if_pos c2] at hg
      refine WL.nil ?_
      refine W.condT rfl ?_
      refine W.seq (W.region rfl ?_)
      refine WL.p h Val.mv ?_
      refine WL.p h Val.mv ?_
      refine WL.p h (Val.addi (c := ((2 * j + 1 : Nat) : Int)) h8 rfl (by omega)) ?_
      refine WL.p h (Val.ix (i := 2 * j + 1) Try.underlying102 T42 h6 rfl (hrow.slice (by omega)) (by omega)) ?_
      refine WL.p h (Val.ldRS A42 T42 hrow rfl (cs := [s2]) rfl (one_cell hs2)) ?_
      refine WL.stS 1 h rfl T42 h4 (vs := [s2]) rfl (one1 hr2.one) rfl rfl (fun w h => ?_)
      refine WL.p h Val.as ?_
      refine WL.nil ?_
      refine W.ret ?_
      exact finBox2 h 1 rfl h4 rfl A42 T42 rfl rfl ⟨F1, s2, true, rfl, h.toExt, hr2.one, by rw [← hg]; rfl, fun z hz => by rw [← hg] at hz; cases hz; exact hr2⟩
    · rw [if_neg c2] at hg
      refine WL.nil ?_
      refine W.condF rfl ?_
      refine W.skip ?_
      refine W.region rfl ?_
      refine WL.p h Val.mv ?_
      refine WL.p h (Val.addi (c := ((2 * (j + 1) : Nat) : Int)) h8 rfl (by omega)) ?_
      refine WL.p h Val.as ?_
      refine WL.nil ?_
      exact ⟨m - 1, by omega, j + 1, by omega, h, hg, h1, h4, h6, rfl⟩
  · have hd : t.kids.drop (2 * j) = [] := List.drop_eq_nil_of_le (by omega)
    rw [hd] at hg
    refine WL.nil ?_
    refine W.condF rfl ?_
    refine W.exit ?_
    refine W.seq (W.region rfl ?_)
    refine WL.p h (Val.build0 B42e) ?_
    refine WL.stS 1 h rfl T42 h4 (vs := [.slice none 0 0]) rfl (one1 rfl) rfl rfl (fun w h => ?_)
    refine WL.p h Val.as ?_
    refine WL.nil ?_
    refine W.ret ?_
    exact finBox2 h 1 rfl h4 rfl A42 T42 rfl rfl ⟨F1, _, false, rfl, h.toExt, rfl, by rw [← hg]; rfl, fun z hz => by rw [← hg] at hz; cases hz⟩
/-! ### A copy of what is valid -/
theorem l6Right_calls (F : Fz) (w0 : World) (hF : Sub F (hv w0)) (v : Value) (es : List At) (hr : FRow F v es.length 4 (rowA es)) (hB : es.length ≤ 1048576) : Calls Try.prog 85 #[.agg #[v]] w0 (PSW F w0 (rightA es)) := by
  refine calls 13 Try.func85 rfl rfl rfl ?_
  have h := Hp.start hF
  refine W.seq (W.region rfl ?_)
  refine WL.box h rfl (fun b1 w h => ?_)
  refine WL.alloc h T42 (fun b2 w h => ?_)
  refine WL.p h Val.as ?_
  refine WL.nil ?_
  refine W.seq (W.seq (W.region rfl ?_))
  refine WL.p h (Val.ldS 0 A42 T42 rfl rfl rfl) ?_
  refine WL.call C16 (args := [.agg #[v]]) rfl ((specValidValue_calls F w h.sub v es hr hB).mono ?_)
  rintro e w' ⟨b, rfl, hb, hE⟩
  have h := h.call hE
  refine ⟨_, rfl, ?_⟩
  refine WL.p h (Val.not rfl) ?_
  refine WL.nil ?_
  cases b with
  | false =>
    have hn : treeP es = none := by
      cases e : treeP es with
      | none => rfl
      | some t => exact absurd (hb.2 ((treeP_iff es).1 (by rw [e]; simp))) (by simp)
    refine W.condT rfl ?_
    refine W.seq (W.region rfl ?_)
    refine WL.p h (Val.build0 B42e) ?_
    refine WL.stS 1 h rfl T42 rfl (vs := [.slice none 0 0]) rfl (one1 rfl) rfl rfl (fun w h => ?_)
    refine WL.p h Val.as ?_
    refine WL.nil ?_
    refine W.ret ?_
    exact finBox2 h 1 rfl rfl rfl A42 T42 rfl rfl (PSW.no h.toExt (by rw [rightA, hn]; rfl))
  | true =>
    obtain ⟨t, ht⟩ := Option.ne_none_iff_exists'.1 ((treeP_iff es).2 (hb.1 rfl))
    have hpos : 0 < es.length := by rw [(treeP_some ht).1]; exact enc_pos t
    obtain ⟨sc, hsc⟩ := hr.slice hpos
    refine W.condF rfl ?_
    refine W.skip ?_
    refine W.seq (W.region rfl ?_)
    refine WL.bs0 h Try.underlying40 T79 (fun b8 w h => ?_)
    refine WL.p h (Val.fa O42_0 rfl) ?_
    refine WL.p h (Val.ld 0 A40 rfl rfl rfl) ?_
    refine WL.app 2 h rfl Try.underlying40 T79 (by decide) rfl hsc (news := rowA es) (rowA_len es) (row_news h hr) (fun u hu => by
      simp only [rowA, List.mem_flatMap] at hu
      obtain ⟨a, _, hu⟩ := hu
      exact at_one a u hu) (by omega) (by omega) (fun s' w h => ?_)
    have hs'1 := h.own1 2 rfl
    obtain ⟨A, c, rfl, _⟩ := (h.row 2 rfl).val
    refine WL.p h (Val.build1 rfl (B42 _ _ _)) ?_
    refine WL.stS 1 h rfl T42 rfl (vs := [.slice A (0 + es.length) c]) rfl (one1 rfl) rfl rfl (fun w h => ?_)
    refine WL.p h Val.as ?_
    refine WL.nil ?_
    obtain ⟨F1, hs1, h, hrow⟩ := h.freezeRow 2 rfl
    refine W.ret ?_
    refine finBox2 (v := .string ⟨#[]⟩) h 1 rfl rfl rfl A42 T42 rfl rfl ⟨F1, _, by rw [rightA, ht], h.toExt, ?_⟩
    rw [rightA, ht]
    simpa using hrow
end Go.Proofs.Ytmiihhbgfijcmaa.K


/- l5Set, exactly: a name set in a record's kids. -/
namespace Go.Proofs.Ytmiihhbgfijcmaa.K
open Go Go.RowKit
set_option linter.unusedVariables false
set_option linter.unusedSimpArgs false
set_option maxRecDepth 20000
def setTl (name : ByteArray) (v : T) : List T → Bool → List T
  | x :: y :: r, done => (if done = false ∧ ¬ ltN x.atom.t name then [tNode name, v] else []) ++ ((if x.atom.t ≠ name then [x, y] else []) ++ setTl name v r (done || decide (¬ ltN x.atom.t name)))
  | _, done => if done = true then [] else [tNode name, v]
theorem setTl_step {ks : List T} {j : Nat} {x y v : T} {name : ByteArray} (done : Bool) (hx : ks[2 * j]? = some x) (hy : ks[2 * j + 1]? = some y) : setTl name v (ks.drop (2 * j)) done = (if done = false ∧ ¬ ltN x.atom.t name then [tNode name, v] else []) ++ ((if x.atom.t ≠ name then [x, y] else []) ++ setTl name v (ks.drop (2 * (j + 1))) (done || decide (¬ ltN x.atom.t name))) := by
  obtain ⟨l1, e1⟩ := List.getElem?_eq_some_iff.1 hx
  obtain ⟨l2, e2⟩ := List.getElem?_eq_some_iff.1 hy
  rw [List.drop_eq_getElem_cons l1, List.drop_eq_getElem_cons l2, e1, e2, setTl]
  rfl
theorem flatA_app (A B : AL T) : flatA (A ++ B) = flatA A ++ flatA B := by simp [flatA]
theorem setTl_flat (n : ByteArray) (v : T) : ∀ (A : AL T) (d : Bool), setTl n v (flatA A) d = flatA (setA n v A d)
  | [], d => by cases d <;> simp [flatA, setTl, setA]
  | (m, x) :: r, d => by
    have e : flatA ((m, x) :: r) = tNode m :: x :: flatA r := by simp [flatA]
    have e2 : (tNode m).atom.t = m := rfl
    rw [e, setTl, setA, flatA_app, flatA_app, setTl_flat n v r, e2, List.append_assoc]
    congr 1
    · split <;> simp [flatA]
    · congr 1
      split <;> simp [flatA]
def addTl : List T → List T → List T
  | p, x :: y :: r => addTl (setTl x.atom.t y p false) r
  | p, _ => p
theorem addTl_step {p ks : List T} {j : Nat} {x y : T} (hx : ks[2 * j]? = some x) (hy : ks[2 * j + 1]? = some y) : addTl p (ks.drop (2 * j)) = addTl (setTl x.atom.t y p false) (ks.drop (2 * (j + 1))) := by
  obtain ⟨l1, e1⟩ := List.getElem?_eq_some_iff.1 hx
  obtain ⟨l2, e2⟩ := List.getElem?_eq_some_iff.1 hy
  rw [List.drop_eq_getElem_cons l1, List.drop_eq_getElem_cons l2, e1, e2, addTl]
  rfl
theorem addTl_flat : ∀ (B A : AL T), addTl (flatA A) (flatA B) = flatA (setAll A B)
  | [], A => by simp [flatA, addTl, setAll]
  | (m, x) :: r, A => by
    have e : flatA ((m, x) :: r) = tNode m :: x :: flatA r := by simp [flatA]
    have e2 : (tNode m).atom.t = m := rfl
    rw [e, addTl, e2, setTl_flat, addTl_flat r]
    rfl
theorem KRows.nil {F : Fz} : KRows F [] [] := ⟨rfl, fun i es he => by simp at he⟩
theorem KRows.mono {F G : Fz} {ts : List T} {ss : List Value} (h : KRows F ts ss) (hs : Sub F G) : KRows G ts ss := ⟨h.len, fun i es he => by
  obtain ⟨s, h1, h2⟩ := h.get i es he
  exact ⟨s, h1, h2.mono hs⟩⟩
theorem KRows.snoc {F : Fz} {ts : List T} {ss : List Value} (h : KRows F ts ss) {s : Value} {t : T} (hr : FRow F s t.enc.length 4 (rowA t.enc)) : KRows F (ts ++ [t]) (ss ++ [s]) := ⟨by simp [h.len], fun i t' he => by
  by_cases hi : i < ts.length
  · rw [List.getElem?_append_left hi] at he
    obtain ⟨s', h1, h2⟩ := h.get i t' he
    exact ⟨s', by rw [List.getElem?_append_left (by rw [h.len]; exact hi)]; exact h1, h2⟩
  · have h0 : i = ts.length := by
      have := (List.getElem?_eq_some_iff.1 he).1
      simp at this; omega
    subst h0
    rw [List.getElem?_append_right (Nat.le_refl _), Nat.sub_self] at he
    simp at he; subst he
    exact ⟨s, by rw [List.getElem?_append_right (by rw [h.len]; exact Nat.le_refl _), h.len, Nat.sub_self]; rfl, hr⟩⟩
theorem tNode_enc (s : ByteArray) : (tNode s).enc = [⟨4, 0, s, 0⟩] := by simp [tNode, T.enc, T.encs]
theorem ge_iff (a b : ByteArray) : (!(Op.bytesLess a.toList b.toList)) = true ↔ ¬ ltN a b := by
  unfold ltN
  cases Op.bytesLess a.toList b.toList <;> simp
def sxI (w0 : World) (F : Fz) (kv s : Value) (name : ByteArray) (x : T) (tot rest : List T) (b5 N : Nat) (done : Bool) (R : Regs) (w : World) : Prop :=
  ∃ (F' : Fz) (ov : Value) (oss : List Value) (ots : List T), Sub F F' ∧ Hp w0 F F' [.box b5 [s] 42, .own ov 42 1 ots.length oss] w ∧ KRows F' ots oss ∧ ots.length ≤ N ∧ ots ++ rest = tot ∧
    R 0 = kv ∧ R 1 = .string name ∧ R 5 = pt b5 ∧ R 7 = ov ∧ R 8 = .bool done
def PSx (F : Fz) (w0 : World) (ts : List T) (e : Ending) (w : World) : Prop :=
  ∃ (F' : Fz) (kv : Value) (ss : List Value), e = .returned kv ∧ Ext F w0 F' w ∧ FRow F' kv ts.length 1 ss ∧ KRows F' ts ss
set_option maxHeartbeats 2000000 in
theorem l5Set_exact (F : Fz) (w0 : World) (hF : Sub F (hv w0)) (kv : Value) (ss : List Value) (ks : List T) (q : Nat) (hlen : ks.length = 2 * q) (hq : q ≤ 2000) (hrow : FRow F kv ks.length 1 ss) (hk : KRows F ks ss) (name : ByteArray) (s : Value) (x : T) (hs : FRow F s x.enc.length 4 (rowA x.enc)) :
    Calls Try.prog 88 #[kv, .string name, .agg #[s]] w0 (PSx F w0 (setTl name x ks false)) := by
  refine calls 61 Try.func88 rfl rfl rfl ?_
  have h := Hp.start hF
  refine W.seq (W.region rfl ?_)
  refine WL.box h rfl (fun b5 w h => ?_)
  refine WL.p h Val.as ?_
  refine WL.nil ?_
  refine W.seq (W.region rfl ?_)
  refine WL.bs0 h Try.underlying102 T42 (fun b6 w h => ?_)
  refine WL.p h Val.as ?_
  refine WL.nil ?_
  refine W.seq (W.region rfl ?_)
  refine WL.p h Val.as ?_
  refine WL.nil ?_
  refine W.seq (W.seq (W.region rfl ?_))
  refine WL.p h Val.as ?_
  refine WL.nil ?_
  refine W.block ?_
  refine W.loop (fun m R w => ∃ j done, m + j = q ∧ sxI w0 F kv s name x (setTl name x ks false) (setTl name x (ks.drop (2 * j)) done) b5 (2 * j + (bif done then 2 else 0)) done R w ∧ R 9 = .int .i64 ((2 * j : Nat) : Int)) q ?_ (fun m R w hI => ?_)
  · exact ⟨0, false, by omega, ⟨F, _, [], [], Sub.refl _, h, KRows.nil, by simp, rfl, rfl, rfl, rfl, rfl, rfl⟩, rfl⟩
  clear h
  obtain ⟨j, done, hm, ⟨F', ov, oss, ots, hs1, h, hko, hlo, htot, h0, h1, h5, h7, h8⟩, h9⟩ := hI
  have hlo4 : ots.length ≤ 2 * j + 2 := by cases done <;> simp at hlo <;> omega
  refine W.seq (W.seq (W.region rfl ?_))
  refine WL.p h Val.mv ?_
  refine WL.p h Val.mv ?_
  refine WL.p h (Val.len Try.underlying102 h0 hrow.val) ?_
  refine WL.p h (Val.lt h9 rfl) ?_
  refine WL.dec (fun c1 => ?_) (fun c1 => ?_)
  · obtain ⟨k1, hk1⟩ : ∃ e1, ks[2 * j]? = some e1 := ⟨_, List.getElem?_eq_getElem (by omega)⟩
    obtain ⟨k2, hk2⟩ : ∃ e2, ks[2 * j + 1]? = some e2 := ⟨_, List.getElem?_eq_getElem (by omega)⟩
    obtain ⟨s1, hs1', hr1⟩ := hk.get _ k1 hk1
    obtain ⟨s2, hs2', hr2⟩ := hk.get _ k2 hk2
    rw [setTl_step done hk1 hk2] at htot
    refine WL.nil ?_
    refine W.condT rfl ?_
    refine W.skip ?_
    refine W.seq (W.block ?_)
    refine W.seq (W.region rfl ?_)
    refine WL.p h Val.mv ?_
    refine WL.p h Val.mv ?_
    refine WL.p h (Val.ix (i := 2 * j) Try.underlying102 T42 h0 h9 (hrow.slice (by omega)) (by omega)) ?_
    refine WL.p h (Val.ldRS A42 T42 (hrow.mono hs1) rfl (cs := [s1]) rfl (one_cell hs1')) ?_
    refine WL.call C48 (args := [.agg #[s1]]) rfl ((l5Last_calls F' _ h.sub s1 k1.enc (hr1.mono hs1) k1.atom (enc_last k1)).mono ?_)
    rintro e w' ⟨rfl, hE⟩
    have h := h.call hE
    refine ⟨_, rfl, ?_⟩
    refine WL.p h (Val.fld E79_2 rfl rfl) ?_
    refine WL.p h Val.as ?_
    refine WL.nil ?_
    refine W.cut (fun R w => ∃ done', sxI w0 F kv s name x (setTl name x ks false) ((if k1.atom.t ≠ name then [k1, k2] else []) ++ setTl name x (ks.drop (2 * (j + 1))) done') b5 (2 * j + (bif done' then 2 else 0)) done' R w ∧ R 9 = .int .i64 ((2 * j : Nat) : Int) ∧ R 10 = .string k1.atom.t) ?_ ?_
    · refine W.seq (W.region rfl ?_)
      refine WL.p h Val.mv ?_
      refine WL.p h (Val.not h8) ?_
      refine WL.p h Val.mv ?_
      cases done with
      | true =>
        refine WL.no rfl (WL.no rfl (WL.no rfl (?_)))
        refine WL.p h (Val.pick rfl) ?_
        refine WL.nil ?_
        refine W.condF rfl ?_
        refine W.skip ?_
        exact ⟨true, ⟨F', ov, oss, ots, hs1, h, hko, hlo, by simpa using htot, h0, h1, h5, h7, h8⟩, h9, rfl⟩
      | false =>
        refine WL.p h Val.mv ?_
        refine WL.p h Val.mv ?_
        refine WL.p h (Val.strGe rfl h1) ?_
        refine WL.decB (fun c2 => ?_) (fun c2 => ?_)
        · have hge := (ge_iff _ _).1 c2
          refine WL.p h (Val.pick rfl) ?_
          refine WL.nil ?_
          refine W.condT rfl ?_
          refine W.seq (W.draw (fun w => Hp w0 F F' [.box b5 [s] 42, .own ov 42 1 ots.length oss] w) [5, 6] 7 (by kernel_rfl) rfl rfl ?_)
          have h := h.drewN 1
          have hS := h
          refine WD.take 0 rfl (by kernel_rfl) (fun _ _ _ h => fin_panic h) hS Val.mv ?_
          refine WD.take 1 rfl (by kernel_rfl) (fun _ _ _ h => fin_panic h) hS Val.mv ?_
          refine WD.take 3 rfl (by kernel_rfl) (fun _ _ _ h => fin_panic h) hS (Val.ldS 0 A42 T42 rfl h5 rfl) ?_
          refine WD.one 2 rfl (by kernel_rfl) ?_
          refine WL.call C86 (args := [.string name]) (congrArg (fun x => [x]) h1) ((l5Text_new _ name).mono ?_)
          intro e w' hp
          obtain ⟨F2, sn, rfl, hs2, h, hrn⟩ := h.takeF hp
          refine ⟨_, rfl, ?_⟩
          refine WL.nil ?_
          refine ⟨h.weak hs1 hs2, ?_⟩
          refine WD.one 4 rfl (by kernel_rfl) ?_
          refine WL.bs2c h Try.underlying102 T42 (u := sn) (v := s) rfl rfl (fun b8 w h => ?_)
          refine WL.nil ?_
          refine ⟨(h.weak hs1 hs2).keep 2, ?_⟩
          refine WD.last 5 rfl (by kernel_rfl) rfl ?_
          refine WL.app 1 h rfl Try.underlying102 T42 (by decide) h7 rfl (news := [sn, s]) rfl (box_news h (i := 2) rfl) (two_one hrn.one hs.one) (by omega) (by omega) (fun ov' w h => ?_)
          refine WL.nil ?_
          refine WD.last 6 rfl (by kernel_rfl) rfl ?_
          refine WL.p h Val.as ?_
          refine WL.nil ?_
          refine WD.nil (by kernel_rfl) ?_
          refine W.region rfl ?_
          refine WL.p h Val.as ?_
          refine WL.nil ?_
          exact ⟨true, ⟨F2, ov', oss ++ [sn, s], ots ++ [tNode name, x], hs1.trans hs2, (h.keep 2).cast (by simp), by simpa using ((hko.mono hs2).snoc (t := tNode name) (by rw [tNode_enc]; exact hrn)).snoc (hs.mono (hs1.trans hs2)), by simp at hlo ⊢; omega, by simpa [hge] using htot, h0, h1, h5, rfl, rfl⟩, h9, rfl⟩
        · have hge : ltN k1.atom.t name := by
            have : ¬ (!(Op.bytesLess k1.atom.t.toList name.toList)) = true := by rw [c2]; simp
            rw [ge_iff] at this
            exact Decidable.not_not.1 this
          refine WL.p h (Val.pick rfl) ?_
          refine WL.nil ?_
          refine W.condF rfl ?_
          refine W.skip ?_
          exact ⟨false, ⟨F', ov, oss, ots, hs1, h, hko, hlo, by simpa [hge] using htot, h0, h1, h5, h7, h8⟩, h9, rfl⟩
    · clear h hko hlo htot h0 h1 h5 h7 h8 h9 hs1 hE
      rintro R w ⟨done', ⟨F', ov, oss, ots, hs1, h, hko, hlo, htot, h0, h1, h5, h7, h8⟩, h9, h10⟩
      have hlo4 : ots.length ≤ 2 * j + 2 := by cases done' <;> simp at hlo <;> omega
      refine W.seq (W.region rfl ?_)
      refine WL.p h Val.mv ?_
      refine WL.p h Val.mv ?_
      refine WL.p h (Val.sNe h10 h1) ?_
      refine WL.dec (fun c3 => ?_) (fun c3 => ?_)
      · rw [if_pos c3] at htot
        refine WL.nil ?_
        refine W.condT rfl ?_
        refine W.draw (fun w => Hp w0 F F' [.box b5 [s] 42, .own ov 42 1 ots.length oss] w) [11, 12] 13 (by kernel_rfl) rfl rfl ?_
        have h := h.drewN 1
        have hS := h
        refine WD.take 0 rfl (by kernel_rfl) (fun _ _ _ h => fin_panic h) hS Val.mv ?_
        refine WD.take 1 rfl (by kernel_rfl) (fun _ _ _ h => fin_panic h) hS Val.mv ?_
        refine WD.take 2 rfl (by kernel_rfl) (fun _ _ _ h => fin_panic h) hS Val.mv ?_
        refine WD.take 3 rfl (by kernel_rfl) (fun _ _ _ h => fin_panic h) hS (Val.ix (i := 2 * j) Try.underlying102 T42 h0 h9 (hrow.slice (by omega)) (by omega)) ?_
        refine WD.take 4 rfl (by kernel_rfl) (fun _ _ _ h => fin_panic h) hS (Val.ldRS A42 T42 (hrow.mono hs1) rfl (cs := [s1]) rfl (one_cell hs1')) ?_
        refine WD.take 5 rfl (by kernel_rfl) (fun _ _ _ h => fin_panic h) hS Val.mv ?_
        refine WD.take 6 rfl (by kernel_rfl) (fun _ _ _ h => fin_panic h) hS Val.mv ?_
        refine WD.take 7 rfl (by kernel_rfl) (fun _ _ _ h => fin_panic h) hS (Val.addi (c := ((2 * j + 1 : Nat) : Int)) h9 rfl (by omega)) ?_
        refine WD.take 8 rfl (by kernel_rfl) (fun _ _ _ h => fin_panic h) hS (Val.ix (i := 2 * j + 1) Try.underlying102 T42 h0 rfl (hrow.slice (by omega)) (by omega)) ?_
        refine WD.take 9 rfl (by kernel_rfl) (fun _ _ _ h => fin_panic h) hS (Val.ldRS A42 T42 (hrow.mono hs1) rfl (cs := [s2]) rfl (one_cell hs2')) ?_
        refine WD.one 10 rfl (by kernel_rfl) ?_
        refine WL.bs2c h Try.underlying102 T42 (u := s1) (v := s2) rfl rfl (fun b8 w h => ?_)
        refine WL.nil ?_
        refine ⟨h.keep 2, ?_⟩
        refine WD.last 11 rfl (by kernel_rfl) rfl ?_
        refine WL.app 1 h rfl Try.underlying102 T42 (by decide) h7 rfl (news := [s1, s2]) rfl (box_news h (i := 2) rfl) (two_one hr1.one hr2.one) (by omega) (by omega) (fun ov' w h => ?_)
        refine WL.nil ?_
        refine WD.last 12 rfl (by kernel_rfl) rfl ?_
        refine WL.p h Val.as ?_
        refine WL.nil ?_
        refine WD.nil (by kernel_rfl) ?_
        refine W.region rfl ?_
        refine WL.p h Val.mv ?_
        refine WL.p h (Val.addi (c := ((2 * (j + 1) : Nat) : Int)) h9 rfl (by omega)) ?_
        refine WL.p h Val.as ?_
        refine WL.nil ?_
        exact ⟨m - 1, by omega, j + 1, done', by omega, ⟨F', ov', oss ++ [s1, s2], ots ++ [k1, k2], hs1, (h.keep 2).cast (by simp), by simpa using (hko.snoc (hr1.mono hs1)).snoc (hr2.mono hs1), by simp; omega, by simpa using htot, h0, h1, h5, rfl, h8⟩, rfl⟩
      · rw [if_neg c3] at htot
        refine WL.nil ?_
        refine W.condF rfl ?_
        refine W.skip ?_
        refine W.region rfl ?_
        refine WL.p h Val.mv ?_
        refine WL.p h (Val.addi (c := ((2 * (j + 1) : Nat) : Int)) h9 rfl (by omega)) ?_
        refine WL.p h Val.as ?_
        refine WL.nil ?_
        exact ⟨m - 1, by omega, j + 1, done', by omega, ⟨F', ov, oss, ots, hs1, h, hko, by omega, by simpa using htot, h0, h1, h5, h7, h8⟩, rfl⟩
  · have hd : ks.drop (2 * j) = [] := List.drop_eq_nil_of_le (by omega)
    rw [hd] at htot
    have hj : 2 * j ≤ 4000 := by omega
    refine WL.nil ?_
    refine W.condF rfl ?_
    refine W.exit ?_
    have hend : ∀ {w : World} {F'' : Fz} {ov : Value} {oss : List Value} {ots : List T}, Sub F F'' → Hp w0 F F'' [.box b5 [s] 42, .own ov 42 1 ots.length oss] w → KRows F'' ots oss → ots = setTl name x ks false → PSx F w0 (setTl name x ks false) (.returned ov) w := fun hs1 h hko e => by
      subst e
      obtain ⟨F3, hs3, h, hr3⟩ := h.freezeRow 1 rfl
      exact ⟨F3, _, _, rfl, h.toExt, hr3, hko.mono hs3⟩
    refine W.seq (W.seq (W.region rfl ?_))
    refine WL.p h Val.mv ?_
    refine WL.p h (Val.not h8) ?_
    refine WL.nil ?_
    cases done with
    | true =>
      refine W.condF rfl ?_
      refine W.skip ?_
      refine W.seq (W.region rfl ?_)
      refine WL.p h Val.mv ?_
      refine WL.p h Val.as ?_
      refine WL.nil ?_
      refine W.ret ?_
      exact fin1 rfl h7 (hend hs1 h hko (by simpa [setTl] using htot))
    | false =>
      refine W.condT rfl ?_
      refine W.draw (fun w => Hp w0 F F' [.box b5 [s] 42, .own ov 42 1 ots.length oss] w) [5, 6] 7 (by kernel_rfl) rfl rfl ?_
      have h := h.drewN 1
      have hS := h
      refine WD.take 0 rfl (by kernel_rfl) (fun _ _ _ h => fin_panic h) hS Val.mv ?_
      refine WD.take 1 rfl (by kernel_rfl) (fun _ _ _ h => fin_panic h) hS Val.mv ?_
      refine WD.take 3 rfl (by kernel_rfl) (fun _ _ _ h => fin_panic h) hS (Val.ldS 0 A42 T42 rfl h5 rfl) ?_
      refine WD.one 2 rfl (by kernel_rfl) ?_
      refine WL.call C86 (args := [.string name]) (congrArg (fun x => [x]) h1) ((l5Text_new _ name).mono ?_)
      intro e w' hp
      obtain ⟨F2, sn, rfl, hs2, h, hrn⟩ := h.takeF hp
      refine ⟨_, rfl, ?_⟩
      refine WL.nil ?_
      refine ⟨h.weak hs1 hs2, ?_⟩
      refine WD.one 4 rfl (by kernel_rfl) ?_
      refine WL.bs2c h Try.underlying102 T42 (u := sn) (v := s) rfl rfl (fun b8 w h => ?_)
      refine WL.nil ?_
      refine ⟨(h.weak hs1 hs2).keep 2, ?_⟩
      refine WD.last 5 rfl (by kernel_rfl) rfl ?_
      refine WL.app 1 h rfl Try.underlying102 T42 (by decide) h7 rfl (news := [sn, s]) rfl (box_news h (i := 2) rfl) (two_one hrn.one hs.one) (by omega) (by omega) (fun ov' w h => ?_)
      refine WL.nil ?_
      refine WD.last 6 rfl (by kernel_rfl) rfl ?_
      refine WL.p h Val.as ?_
      refine WL.nil ?_
      refine WD.nil (by kernel_rfl) ?_
      refine W.seq (W.region rfl ?_)
      refine WL.p h Val.mv ?_
      refine WL.p h Val.as ?_
      refine WL.nil ?_
      refine W.ret ?_
      exact fin1 (v := ov') rfl rfl (hend (oss := oss ++ [sn, s]) (ots := ots ++ [tNode name, x]) (hs1.trans hs2) ((h.keep 2).cast (by simp)) (by simpa using ((hko.mono hs2).snoc (t := tNode name) (by rw [tNode_enc]; exact hrn)).snoc (hs.mono (hs1.trans hs2))) (by simpa [setTl] using htot))
end Go.Proofs.Ytmiihhbgfijcmaa.K


/- append of a row, an empty one too. -/
namespace Go.Proofs.Ytmiihhbgfijcmaa.K
open Go Go.RowKit
set_option linter.unusedVariables false
set_option linter.unusedSimpArgs false
section
variable {P : Program} {R : Regs} {w0 : World} {F0 F : Fz} {L : List Ch} {d : Option Nat} {ty : TypeId} {pos : String} {af : Array Edge} {g : Option (Nat × Bool)}
variable {n : Nat} {ops : Array Oper} {Q : Post} {w : World} {rest : List Oper}
theorem run_app0 {T e size bytes nn sc c : Nat} {z : Value} {A B : Option Addr} {ty : TypeId} (ht : P.underlying T = some (.slice e)) (hT : TI P e z size bytes) (hle : nn ≤ sc) (w : World) :
    (Builtin.append_ #[T, T] ty #[.slice A nn sc, .slice B 0 c]).run P w = .ok (.slice A nn sc) w := by
  have hz : ∀ a : Addr, (loadCells a 0).run P w = .ok #[] w := fun a => rfl
  cases A <;> cases B <;> simp [Builtin.append_, run_underlying ht, hT.sizeOf w, Builtin.lenOf, Builtin.firstCells, hle, hz, storeCells]
theorem WL.appR (i : Nat) {T e size bytes m nn : Nat} {z : Value} {x y : Operand} {v u : Value} {xs news : List Value} (h : Hp w0 F0 F L w) (hi : L[i]? = some (.own v e size nn xs)) (ht : P.underlying T = some (.slice e)) (hT : TI P e z size bytes) (hsz : 0 < size)
    (hx : ev R x = v) (hy : ev R y = u) (hr : FRow (hv w) u m size news) (h1 : ∀ u ∈ news, u.oneCell' = true) (h63 : nn + m ≤ 9223372036854775807) (hb : (nn + m) * bytes ≤ 140737488355328)
    (k : ∀ v' w', Hp w0 F0 F (L.set i (.own v' e size (nn + m) (xs ++ news))) w' → WL P n ops Q rest (updO R d v') w') (hw : wantB ops R g = true := by rfl) : WL P n ops Q (⟨d, .call { callee := .builtin .append, args := #[x, y], argTypes := #[T, T] }, ty, pos, af, g⟩ :: rest) R w := by
  by_cases h0 : m = 0
  · subst h0
    obtain ⟨B, c, rfl, _⟩ := hr.val
    obtain ⟨A, sc, rfl, hle⟩ := (h.row i hi).val
    have hn : news = [] := List.eq_nil_of_length_eq_zero (by rw [hr.len]; simp)
    subst hn
    refine WL.val (v := .slice A nn sc) (w' := w) hw ?_ (k _ _ (by
      have := h.retell i (.own (.slice A nn sc) e size (nn + 0) (xs ++ [])) hi (by simpa using h.holds i _ hi) (fun b hb => hb)
      exact this))
    have := run_app0 (P := P) (ty := ty) (A := A) (B := B) (c := c) ht hT hle w
    unfold execOp
    simp only [resolve, invoke, builtin, Sem.run_bind, Sem.run_pure, Result.andThen_ok, List.map_toArray, List.map_cons, List.map_nil, hx, hy, this]
  · obtain ⟨c, hc⟩ := hr.slice (by omega)
    exact WL.app i h hi ht hT hsz hx (hy.trans hc) hr.len (fun j u hu => by rw [add_plain]; exact hr.cell (Sub.refl _) hu) h1 h63 hb k hw
end
end Go.Proofs.Ytmiihhbgfijcmaa.K

/- Op: the reference's op, walked. -/
namespace Go.Proofs.Ytmiihhbgfijcmaa.K
open Go Go.RowKit
set_option linter.unusedVariables false
set_option linter.unusedSimpArgs false
set_option maxRecDepth 20000
theorem C28 : CF Try.prog 28 := ⟨_, Try.func28, rfl, rfl⟩
theorem C44' : CF Try.prog 44 := ⟨_, Try.func44, rfl, rfl⟩
def boolA (b : Bool) : List At × ByteArray := ([⟨2, if b then 1 else 0, ⟨#[]⟩, 0⟩], ⟨#[]⟩)
def hasA (t u : T) : List At × ByteArray :=
  if t.atom.k = 4 then (if u.atom.k = 4 then boolA (Lib.contains t.atom.t.data.toList u.atom.t.data.toList) else ([], wType))
  else if t.atom.k = 5 then boolA (t.kids.any fun k => decide (ordT k u = 0))
  else if t.atom.k = 6 then (if u.atom.k = 4 then boolA (getT t.kids u.atom.t).isSome else ([], wType))
  else ([], wType)
def addA (t u : T) : List At × ByteArray :=
  if t.atom.k ≠ u.atom.k then ([], wType)
  else if t.atom.k = 3 then (numR 10 t.atom.n u.atom.n).at
  else if t.atom.k = 4 then rightA [⟨4, 0, t.atom.t ++ u.atom.t, 0⟩]
  else if t.atom.k = 5 then rightA (T.encs (t.kids ++ u.kids) ++ [⟨5, 0, ⟨#[]⟩, (t.kids ++ u.kids).length⟩])
  else if t.atom.k = 6 then rightA (T.encs (addTl t.kids u.kids) ++ [⟨6, 0, ⟨#[]⟩, (addTl t.kids u.kids).length⟩])
  else ([], wType)
def opT (op : Int) (t u : T) : List At × ByteArray :=
  if op = 3 then boolA (decide (ordT t u = 0)) else if op = 4 then boolA (decide (ordT t u ≠ 0))
  else if op = 9 then hasA t u else if op = 10 then addA t u
  else if t.atom.k ≠ u.atom.k then ([], wType)
  else if op ≤ 2 then (if t.atom.k ≠ 2 then ([], wType) else if op = 1 then boolA (decide (0 < t.atom.n + u.atom.n)) else boolA (decide (t.atom.n + u.atom.n = 2)))
  else if op ≤ 8 then (if t.atom.k = 1 ∨ t.atom.k = 6 then ([], wType) else if op = 5 then boolA (decide (ordT t u < 0)) else if op = 6 then boolA (decide (ordT t u ≤ 0)) else if op = 7 then boolA (decide (0 < ordT t u)) else boolA (decide (0 ≤ ordT t u)))
  else if t.atom.k ≠ 3 then ([], wType) else (numR op t.atom.n u.atom.n).at
def opP (op : Int) (es fs : List At) : List At × ByteArray := match treeP es, treeP fs with
  | some t, some u => if op < 1 ∨ 14 < op then ([], wType) else opT op t u
  | _, _ => ([], wType)
theorem PSW.bool {F w0 w} {F' : Fz} {l : List At × ByteArray} {s : Value} {b : Bool} (hE : Ext F w0 F' w) (hr : FRow F' s 1 4 (rowA [⟨2, if b then 1 else 0, ⟨#[]⟩, 0⟩])) (h : l = boolA b) : PSW F w0 l (.returned (.tuple #[.agg #[s], .string ⟨#[]⟩])) w := ⟨F', s, by rw [h]; rfl, hE, by rw [h]; exact hr⟩
/-- What is known of a valid tree. -/
structure Vt (t : T) : Prop where
  wf : t.Wf
  len : t.enc.length ≤ 1000
  it : ∃ it, evalT t = some it
  num : inR t.atom.n
theorem Vt.kids {t : T} (h : Vt t) : t.kids.length ≤ 1000 := by
  have h1 := encs_ge t.kids
  have h2 := enc_eq t
  have h3 := h.len
  rw [h2] at h3; simp at h3; omega
theorem Vt.text {t : T} (h : Vt t) (h4 : t.atom.k = 4) : t.atom.t.size ≤ 1000 := by
  obtain ⟨it, hit⟩ := h.it
  cases t with
  | node a ks =>
    obtain ⟨k, hk, hi⟩ := evalT_inner h.wf hit
    have h4 : a.k = 4 := h4
    exact (hi.inv4 h4).2.1
theorem Vt.even {t : T} (h : Vt t) (h6 : t.atom.k = 6) : ∃ q, t.kids.length = 2 * q := by
  obtain ⟨it, hit⟩ := h.it
  cases t with
  | node a ks =>
    obtain ⟨k, hk, hi⟩ := evalT_inner h.wf hit
    have h6 : a.k = 6 := h6
    obtain ⟨ns, vs, q, hl, _⟩ := hi.inv6 h6
    exact ⟨q, hl⟩
set_option maxHeartbeats 8000000 in
theorem l6Has_calls (F : Fz) (w0 : World) (hF : Sub F (hv w0)) (va vb : Value) (t u : T) (hvt : Vt t) (hvu : Vt u) (hrt0 : FRow F va t.enc.length 4 (rowA t.enc)) (hru0 : FRow F vb u.enc.length 4 (rowA u.enc)) : Calls Try.prog 58 #[.agg #[va], .agg #[vb]] w0 (PSW F w0 (hasA t u)) := by
  have ht := hvt.wf
  have hBt : t.enc.length ≤ 1048576 := by have := hvt.len; omega
  have hBu : u.enc.length ≤ 1048576 := by have := hvu.len; omega
  have hkl := hvt.kids
  refine calls 67 Try.func58 rfl rfl rfl ?_
  have h := Hp.start hF
  refine W.seq (W.region rfl ?_)
  refine WL.box h rfl (fun b2 w h => ?_)
  refine WL.box h rfl (fun b3 w h => ?_)
  refine WL.alloc h T42 (fun b4 w h => ?_)
  refine WL.p h Val.as ?_
  refine WL.nil ?_
  refine W.seq (W.region rfl ?_)
  refine WL.p h (Val.ldS 0 A42 T42 rfl rfl rfl) ?_
  refine WL.call C69 (args := [.agg #[va]]) rfl ((l5Kids_calls F w h.sub va _ hrt0 hBt).mono ?_)
  rintro e w' ⟨F1, ku, us, ok, rfl, hE, hk⟩
  rw [kidsP_enc t ht] at hk
  obtain ⟨rfl, hrow, hkr⟩ := hk
  have h : Hp w0 F F1 [.box b2 [va] 42, .box b3 [vb] 42, .box b4 [.slice none 0 0] 42] w' := h.call hE
  have hF1 : Sub F F1 := hE.ext
  have hrt := hrt0.mono hF1
  have hru := hru0.mono hF1
  refine ⟨_, rfl, ?_⟩
  refine WL.p h Val.mv ?_
  refine WL.p h (Val.ext (v := ku) rfl rfl) ?_
  refine WL.p h (Val.ext (v := .bool true) rfl rfl) ?_
  refine WL.p h Val.as ?_
  refine WL.p h Val.as ?_
  refine WL.nil ?_
  refine W.seq (W.seq (W.region rfl ?_))
  refine WL.p h (Val.ldS 0 A42 T42 rfl rfl rfl) ?_
  refine WL.call C46 (args := [.agg #[va]]) rfl ((l6Kind_calls F1 _ h.sub va t.enc hrt t.atom (enc_last t)).mono ?_)
  rintro e w' ⟨rfl, hE⟩
  have h := h.call hE
  refine ⟨_, rfl, ?_⟩
  refine WL.nil ?_
  have h4 : ∀ {R : Regs}, R 4 = pt b4 → R 4 = pt b4 := fun h => h
  refine W.cutT (fun R w => Hp w0 F F1 [.box b2 [va] 42, .box b3 [vb] 42, .box b4 [.slice none 0 0] 42] w ∧ hasA t u = ([], wType) ∧ R 4 = pt b4) ?_ ?_
  · refine W.block ?_
    refine W.seq (W.region rfl ?_)
    refine WL.p h (Val.eq (a := t.atom.k) (b := 4) rfl rfl) ?_
    refine WL.dec (fun k4 => ?_) (fun k4 => ?_)
    · refine WL.p h Val.as ?_
      refine WL.nil ?_
      refine W.condT rfl ?_
      refine W.seq (W.region rfl ?_)
      refine WL.p h (Val.ldS 1 A42 T42 rfl rfl rfl) ?_
      refine WL.call C46 (args := [.agg #[vb]]) rfl ((l6Kind_calls F1 _ h.sub vb u.enc hru u.atom (enc_last u)).mono ?_)
      rintro e w' ⟨rfl, hE⟩
      have h := h.call hE
      refine ⟨_, rfl, ?_⟩
      refine WL.p h (Val.eq (a := u.atom.k) (b := 4) rfl rfl) ?_
      refine WL.dec (fun u4 => ?_) (fun u4 => ?_)
      · have hts := hvt.text k4
        have hus := hvu.text u4
        refine WL.nil ?_
        refine W.condT rfl ?_
        refine W.seq (W.draw (fun w => Hp w0 F F1 [.box b2 [va] 42, .box b3 [vb] 42, .box b4 [.slice none 0 0] 42] w) [8, 9, 10] 11 (by kernel_rfl) rfl rfl ?_)
        have hS := h.drewN 1
        refine WD.take 0 rfl (by kernel_rfl) (fun _ _ _ h => fin_panic h) hS (Val.ldS 0 A42 T42 rfl rfl rfl) ?_
        refine WD.take 3 rfl (by kernel_rfl) (fun _ _ _ h => fin_panic h) hS (Val.ldS 1 A42 T42 rfl rfl rfl) ?_
        refine WD.one 1 rfl (by kernel_rfl) ?_
        refine WL.call C48 (args := [.agg #[va]]) rfl ((l5Last_calls F1 _ hS.sub va t.enc (hrt) t.atom (enc_last t)).mono ?_)
        rintro e w' ⟨rfl, hE⟩
        have hS := hS.call hE
        refine ⟨_, rfl, ?_⟩
        refine WL.nil ?_
        refine ⟨hS, ?_⟩
        refine WD.take 2 rfl (by kernel_rfl) (fun _ _ _ h => fin_panic h) hS (Val.fld E79_2 rfl rfl) ?_
        refine WD.one 4 rfl (by kernel_rfl) ?_
        refine WL.call C48 (args := [.agg #[vb]]) rfl ((l5Last_calls F1 _ hS.sub vb u.enc (hru) u.atom (enc_last u)).mono ?_)
        rintro e w' ⟨rfl, hE⟩
        have hS := hS.call hE
        refine ⟨_, rfl, ?_⟩
        refine WL.nil ?_
        refine ⟨hS, ?_⟩
        refine WD.take 5 rfl (by kernel_rfl) (fun _ _ _ h => fin_panic h) hS (Val.fld E79_2 rfl rfl) ?_
        refine WD.one 6 rfl (by kernel_rfl) ?_
        refine WL.call C83 (args := [.string t.atom.t, .string u.atom.t, .int .i64 0]) rfl ((l6In_calls F1 _ hS.sub t.atom.t u.atom.t (by omega) (by omega)).mono ?_)
        rintro e w' ⟨r, rfl, hrc, hE⟩
        have hS := hS.call hE
        refine ⟨_, rfl, ?_⟩
        refine WL.nil ?_
        refine ⟨hS, ?_⟩
        refine WD.take 7 rfl (by kernel_rfl) (fun _ _ _ h => fin_panic h) hS (Val.ge (a := r) (b := 0) rfl rfl) ?_
        have h := hS
        have hb : decide (0 ≤ r) = Lib.contains t.atom.t.data.toList u.atom.t.data.toList := by
          cases hc : Lib.contains t.atom.t.data.toList u.atom.t.data.toList
          · rw [hc] at hrc; simp at hrc ⊢; omega
          · rw [hc] at hrc; simp at hrc ⊢; omega
        rw [hb]
        refine WD.last 8 rfl (by kernel_rfl) rfl ?_
        refine WL.call C47 (args := [.bool (Lib.contains t.atom.t.data.toList u.atom.t.data.toList)]) rfl ((l5Bool_calls _ _ h.sub _).mono ?_)
        rintro e w' ⟨F9, s9, rfl, hE, hrow9⟩
        have h := h.call hE
        refine ⟨_, rfl, ?_⟩
        refine WL.nil ?_
        refine WD.last 9 rfl (by kernel_rfl) rfl ?_
        refine WL.stS 2 h rfl T42 rfl (vs := [s9]) rfl (one1 hrow9.one) rfl rfl (fun w h => ?_)
        refine WL.nil ?_
        refine WD.last 10 rfl (by kernel_rfl) rfl ?_
        refine WL.p h Val.as ?_
        refine WL.nil ?_
        refine WD.nil (by kernel_rfl) ?_
        refine W.ret ?_
        exact finBox2 (v := .string ⟨#[]⟩) h 2 rfl rfl rfl A42 T42 rfl rfl (PSW.bool h.toExt hrow9 (by rw [hasA, if_pos k4, if_pos u4]))
      · refine WL.nil ?_
        refine W.condF rfl ?_
        refine W.skip ?_
        exact ⟨h, by rw [hasA, if_pos k4, if_neg u4], rfl⟩
    refine WL.p h Val.as ?_
    refine WL.nil ?_
    refine W.condF rfl ?_
    refine W.seq (W.region rfl ?_)
    refine WL.p h (Val.eq (a := t.atom.k) (b := 5) rfl rfl) ?_
    refine WL.dec (fun k5 => ?_) (fun k5 => ?_)
    · refine WL.p h Val.as ?_
      refine WL.nil ?_
      refine W.condT rfl ?_
      refine W.seq (W.seq (W.region rfl ?_))
      refine WL.p h Val.as ?_
      refine WL.nil ?_
      refine W.block ?_
      refine W.loop (fun m R w => ∃ j, m + j = t.kids.length ∧ Hp w0 F F1 [.box b2 [va] 42, .box b3 [vb] 42, .box b4 [.slice none 0 0] 42] w ∧ (∀ (i : Nat) x, i < j → t.kids[i]? = some x → ordT x u ≠ 0) ∧ R 3 = pt b3 ∧ R 4 = pt b4 ∧ R 6 = ku ∧ R 8 = .int .i64 (j : Int)) t.kids.length ⟨0, by omega, h, fun i x hi => by omega, rfl, rfl, rfl, rfl⟩ (fun m R w hI => ?_)
      clear h h4
      obtain ⟨j, hm, h, hno, h3, h4, h6, h8⟩ := hI
      refine W.seq (W.seq (W.region rfl ?_))
      refine WL.p h Val.mv ?_
      refine WL.p h Val.mv ?_
      refine WL.p h (Val.len Try.underlying102 h6 hrow.val) ?_
      refine WL.p h (Val.lt h8 rfl) ?_
      refine WL.dec (fun c1 => ?_) (fun c1 => ?_)
      · obtain ⟨x, hx⟩ : ∃ x, t.kids[j]? = some x := ⟨_, List.getElem?_eq_getElem (by omega)⟩
        obtain ⟨s1, hs1, hr1⟩ := hkr.get _ x hx
        have hxw : x.Wf := (wf_c (show (T.node t.atom t.kids).Wf by cases t; exact ht)).2 x (List.mem_of_getElem? hx)
        have hxl : x.enc.length ≤ 1048576 := by
          have h1 := enc_le t.kids hx
          have h2 := enc_eq t
          rw [h2] at hBt; simp at hBt; omega
        refine WL.nil ?_
        refine W.condT rfl ?_
        refine W.skip ?_
        refine W.seq (W.block ?_)
        refine W.seq (W.draw (fun w => Hp w0 F F1 [.box b2 [va] 42, .box b3 [vb] 42, .box b4 [.slice none 0 0] 42] w) [] 7 (by kernel_rfl) rfl rfl ?_)
        have hS := h.drewN 1
        refine WD.take 0 rfl (by kernel_rfl) (fun _ _ _ h => fin_panic h) hS Val.mv ?_
        refine WD.take 1 rfl (by kernel_rfl) (fun _ _ _ h => fin_panic h) hS Val.mv ?_
        refine WD.take 2 rfl (by kernel_rfl) (fun _ _ _ h => fin_panic h) hS (Val.ix (i := j) Try.underlying102 T42 h6 h8 (hrow.slice (by omega)) (by omega)) ?_
        refine WD.take 3 rfl (by kernel_rfl) (fun _ _ _ h => fin_panic h) hS (Val.ldRS A42 T42 hrow rfl (cs := [s1]) rfl (one_cell hs1)) ?_
        refine WD.take 4 rfl (by kernel_rfl) (fun _ _ _ h => fin_panic h) hS (Val.ldS 1 A42 T42 rfl h3 rfl) ?_
        refine WD.one 5 rfl (by kernel_rfl) ?_
        refine WL.call C44 (args := [.agg #[s1], .agg #[vb]]) rfl ((l5Order_calls _ F1 _ hS.sub s1 vb x u hxw hvu.wf hr1 hru hxl hBu rfl).mono ?_)
        rintro e w' ⟨rfl, hE⟩
        have hS := hS.call hE
        refine ⟨_, rfl, ?_⟩
        refine WL.nil ?_
        refine ⟨hS, ?_⟩
        refine WD.take 6 rfl (by kernel_rfl) (fun _ _ _ h => fin_panic h) hS (Val.eq (a := ordT x u) (b := 0) rfl rfl) ?_
        refine WD.dec (fun c2 => ?_) (fun c2 => ?_)
        · refine WD.nil (by kernel_rfl) ?_
          have h := hS
          refine W.condT rfl ?_
          refine W.seq (W.region rfl ?_)
          refine WL.call C47 (args := [.bool (true)]) rfl ((l5Bool_calls _ _ h.sub _).mono ?_)
          rintro e w' ⟨F9, s9, rfl, hE, hrow9⟩
          have h := h.call hE
          refine ⟨_, rfl, ?_⟩
          refine WL.stS 2 h rfl T42 h4 (vs := [s9]) rfl (one1 hrow9.one) rfl rfl (fun w h => ?_)
          refine WL.p h Val.as ?_
          refine WL.nil ?_
          refine W.ret ?_
          exact finBox2 (v := .string ⟨#[]⟩) h 2 rfl h4 rfl A42 T42 rfl rfl (PSW.bool h.toExt hrow9 (by rw [hasA, if_neg k4, if_pos k5]; congr 1; exact List.any_eq_true.2 ⟨x, List.mem_of_getElem? hx, by simp [c2]⟩))
        · refine WD.nil (by kernel_rfl) ?_
          have h := hS
          refine W.condF rfl ?_
          refine W.skip ?_
          refine W.region rfl ?_
          refine WL.p h Val.mv ?_
          refine WL.p h (Val.addi (c := ((j + 1 : Nat) : Int)) h8 rfl (by omega)) ?_
          refine WL.p h Val.as ?_
          refine WL.nil ?_
          exact ⟨m - 1, by omega, j + 1, by omega, h, fun i y hi hy => by
            by_cases e : i = j
            · subst e; rw [hx] at hy; cases hy; exact c2
            · exact hno i y (by omega) hy, h3, h4, h6, rfl⟩
      · refine WL.nil ?_
        refine W.condF rfl ?_
        refine W.exit ?_
        refine W.seq (W.region rfl ?_)
        refine WL.call C47 (args := [.bool (false)]) rfl ((l5Bool_calls _ _ h.sub _).mono ?_)
        rintro e w' ⟨F9, s9, rfl, hE, hrow9⟩
        have h := h.call hE
        refine ⟨_, rfl, ?_⟩
        refine WL.stS 2 h rfl T42 h4 (vs := [s9]) rfl (one1 hrow9.one) rfl rfl (fun w h => ?_)
        refine WL.p h Val.as ?_
        refine WL.nil ?_
        refine W.ret ?_
        exact finBox2 (v := .string ⟨#[]⟩) h 2 rfl h4 rfl A42 T42 rfl rfl (PSW.bool h.toExt hrow9 (by rw [hasA, if_neg k4, if_pos k5]; congr 1; rw [List.any_eq_false]; intro x hx; obtain ⟨i, hi⟩ := List.mem_iff_getElem?.1 hx; simp [hno i x (by have := (List.getElem?_eq_some_iff.1 hi).1; omega) hi]))
    refine WL.p h Val.as ?_
    refine WL.nil ?_
    refine W.condF rfl ?_
    refine W.seq (W.region rfl ?_)
    refine WL.p h (Val.eq (a := t.atom.k) (b := 6) rfl rfl) ?_
    refine WL.dec (fun k6 => ?_) (fun k6 => ?_)
    · obtain ⟨q, hq⟩ := hvt.even k6
      refine WL.p h Val.as ?_
      refine WL.nil ?_
      refine W.condT rfl ?_
      refine W.seq (W.region rfl ?_)
      refine WL.p h (Val.ldS 1 A42 T42 rfl rfl rfl) ?_
      refine WL.call C46 (args := [.agg #[vb]]) rfl ((l6Kind_calls F1 _ h.sub vb u.enc hru u.atom (enc_last u)).mono ?_)
      rintro e w' ⟨rfl, hE⟩
      have h := h.call hE
      refine ⟨_, rfl, ?_⟩
      refine WL.p h (Val.eq (a := u.atom.k) (b := 4) rfl rfl) ?_
      refine WL.dec (fun u4 => ?_) (fun u4 => ?_)
      · refine WL.nil ?_
        refine W.condT rfl ?_
        have h4 : ∀ {x : Value} {d : Nat}, pt b4 = pt b4 := rfl
        refine W.seq (W.draw (fun w => ∃ L' : List Ch, Hp w0 F F1 ([.box b2 [va] 42, .box b3 [vb] 42, .box b4 [.slice none 0 0] 42] ++ L') w) [10] 11 (by kernel_rfl) rfl rfl ?_)
        have h : Hp w0 F F1 ([.box b2 [va] 42, .box b3 [vb] 42, .box b4 [.slice none 0 0] 42] ++ []) _ := h.drewN 1
        have hS : ∃ L' : List Ch, Hp w0 F F1 ([.box b2 [va] 42, .box b3 [vb] 42, .box b4 [.slice none 0 0] 42] ++ L') _ := ⟨[], h⟩
        refine WD.take 0 rfl (by kernel_rfl) (fun _ _ _ h => fin_panic h) hS (Val.ex fun L' => Val.ldS 0 A42 T42 rfl rfl rfl) ?_
        refine WD.take 1 rfl (by kernel_rfl) (fun _ _ _ h => fin_panic h) hS (Val.ex fun L' => Val.ldS 1 A42 T42 rfl rfl rfl) ?_
        refine WD.all2 2 8 (by kernel_rfl) rfl rfl ?_ ?_
        · refine WL.call C48 (args := [.agg #[vb]]) rfl ((l5Last_calls F1 _ h.sub vb u.enc hru u.atom (enc_last u)).mono ?_)
          rintro e w' ⟨rfl, hE⟩
          have h := h.call hE
          refine ⟨_, rfl, ?_⟩
          refine WL.nil ?_
          have hS : ∃ L' : List Ch, Hp w0 F F1 ([.box b2 [va] 42, .box b3 [vb] 42, .box b4 [.slice none 0 0] 42] ++ L') _ := ⟨_, h⟩
          refine ⟨hS, ?_⟩
          refine WD.take 3 rfl (by kernel_rfl) (fun _ _ _ h => fin_panic h) hS (Val.fldA E79_2 rfl rfl) ?_
          refine WD.all2 4 8 (by kernel_rfl) rfl rfl ?_ ?_
          · refine WL.call C84 (args := [.agg #[va], .string u.atom.t]) rfl ((l5Get_calls F1 _ h.sub va t q ht hrt hBt hq u.atom.t).mono ?_)
            rintro e w' ⟨F2, sg, bg, rfl, hE, hsg, hbg, _⟩
            have hsub := hE.ext
            have h := h.call hE
            refine ⟨_, rfl, ?_⟩
            refine WL.nil ?_
            have hS : ∃ L' : List Ch, Hp w0 F F1 ([.box b2 [va] 42, .box b3 [vb] 42, .box b4 [.slice none 0 0] 42] ++ L') _ := ⟨_, h.weak hF1 hsub⟩
            refine ⟨hS, ?_⟩
            refine WD.take 5 rfl (by kernel_rfl) (fun _ _ _ h => fin_panic h) hS Val.mv ?_
            refine WD.take 6 rfl (by kernel_rfl) (fun _ _ _ h => fin_panic h) hS (Val.ext (v := .agg #[sg]) rfl rfl) ?_
            refine WD.take 7 rfl (by kernel_rfl) (fun _ _ _ h => fin_panic h) hS (Val.ext (v := .bool bg) rfl rfl) ?_
            refine WD.one 8 rfl (by kernel_rfl) ?_
            refine WL.alloc h T42 (fun b9 w h => ?_)
            refine WL.nil ?_
            have hS : ∃ L' : List Ch, Hp w0 F F1 ([.box b2 [va] 42, .box b3 [vb] 42, .box b4 [.slice none 0 0] 42] ++ L') _ := ⟨_, h.weak hF1 hsub⟩
            refine ⟨hS, ?_⟩
            refine WD.one 9 rfl (by kernel_rfl) ?_
            refine WL.stS 3 h rfl T42 rfl (vs := [sg]) rfl (one1 hsg) rfl rfl (fun w h => ?_)
            refine WL.nil ?_
            refine ⟨⟨_, h.weak hF1 hsub⟩, ?_⟩
            refine WD.last 10 rfl (by kernel_rfl) rfl ?_
            refine WL.p h Val.as ?_
            refine WL.nil ?_
            refine WD.nil (by kernel_rfl) ?_
            refine W.seq (W.region rfl ?_)
            refine WL.p h Val.mv ?_
            refine WL.call C47 (args := [.bool (bg)]) rfl ((l5Bool_calls _ _ h.sub _).mono ?_)
            rintro e w' ⟨F9, s9, rfl, hE, hrow9⟩
            have h := h.call hE
            refine ⟨_, rfl, ?_⟩
            refine WL.stS 2 h rfl T42 rfl (vs := [s9]) rfl (one1 hrow9.one) rfl rfl (fun w h => ?_)
            refine WL.p h Val.as ?_
            refine WL.nil ?_
            refine W.ret ?_
            exact finBox2 (v := .string ⟨#[]⟩) h 2 rfl rfl rfl A42 T42 rfl rfl (PSW.bool h.toExt hrow9 (by rw [hasA, if_neg (by omega), if_neg (by omega), if_pos k6, if_pos u4, hbg]))
          · refine WL.alloc h T42 (fun b9 w h => ?_)
            refine WL.nil ?_
            have hS : ∃ L' : List Ch, Hp w0 F F1 ([.box b2 [va] 42, .box b3 [vb] 42, .box b4 [.slice none 0 0] 42] ++ L') _ := ⟨_, h⟩
            refine ⟨hS, ?_⟩
            refine WD.one 4 rfl (by kernel_rfl) ?_
            refine WL.call C84 (args := [.agg #[va], .string u.atom.t]) rfl ((l5Get_calls F1 _ h.sub va t q ht hrt hBt hq u.atom.t).mono ?_)
            rintro e w' ⟨F2, sg, bg, rfl, hE, hsg, hbg, _⟩
            have hsub := hE.ext
            have h := h.call hE
            refine ⟨_, rfl, ?_⟩
            refine WL.nil ?_
            have hS : ∃ L' : List Ch, Hp w0 F F1 ([.box b2 [va] 42, .box b3 [vb] 42, .box b4 [.slice none 0 0] 42] ++ L') _ := ⟨_, h.weak hF1 hsub⟩
            refine ⟨hS, ?_⟩
            refine WD.take 5 rfl (by kernel_rfl) (fun _ _ _ h => fin_panic h) hS Val.mv ?_
            refine WD.take 6 rfl (by kernel_rfl) (fun _ _ _ h => fin_panic h) hS (Val.ext (v := .agg #[sg]) rfl rfl) ?_
            refine WD.take 7 rfl (by kernel_rfl) (fun _ _ _ h => fin_panic h) hS (Val.ext (v := .bool bg) rfl rfl) ?_
            refine WD.one 9 rfl (by kernel_rfl) ?_
            refine WL.stS 3 h rfl T42 rfl (vs := [sg]) rfl (one1 hsg) rfl rfl (fun w h => ?_)
            refine WL.nil ?_
            refine ⟨⟨_, h.weak hF1 hsub⟩, ?_⟩
            refine WD.last 10 rfl (by kernel_rfl) rfl ?_
            refine WL.p h Val.as ?_
            refine WL.nil ?_
            refine WD.nil (by kernel_rfl) ?_
            refine W.seq (W.region rfl ?_)
            refine WL.p h Val.mv ?_
            refine WL.call C47 (args := [.bool (bg)]) rfl ((l5Bool_calls _ _ h.sub _).mono ?_)
            rintro e w' ⟨F9, s9, rfl, hE, hrow9⟩
            have h := h.call hE
            refine ⟨_, rfl, ?_⟩
            refine WL.stS 2 h rfl T42 rfl (vs := [s9]) rfl (one1 hrow9.one) rfl rfl (fun w h => ?_)
            refine WL.p h Val.as ?_
            refine WL.nil ?_
            refine W.ret ?_
            exact finBox2 (v := .string ⟨#[]⟩) h 2 rfl rfl rfl A42 T42 rfl rfl (PSW.bool h.toExt hrow9 (by rw [hasA, if_neg (by omega), if_neg (by omega), if_pos k6, if_pos u4, hbg]))
        · refine WL.alloc h T42 (fun b9 w h => ?_)
          refine WL.nil ?_
          have hS : ∃ L' : List Ch, Hp w0 F F1 ([.box b2 [va] 42, .box b3 [vb] 42, .box b4 [.slice none 0 0] 42] ++ L') _ := ⟨_, h⟩
          refine ⟨hS, ?_⟩
          refine WD.one 2 rfl (by kernel_rfl) ?_
          refine WL.call C48 (args := [.agg #[vb]]) rfl ((l5Last_calls F1 _ h.sub vb u.enc hru u.atom (enc_last u)).mono ?_)
          rintro e w' ⟨rfl, hE⟩
          have h := h.call hE
          refine ⟨_, rfl, ?_⟩
          refine WL.nil ?_
          have hS : ∃ L' : List Ch, Hp w0 F F1 ([.box b2 [va] 42, .box b3 [vb] 42, .box b4 [.slice none 0 0] 42] ++ L') _ := ⟨_, h⟩
          refine ⟨hS, ?_⟩
          refine WD.take 3 rfl (by kernel_rfl) (fun _ _ _ h => fin_panic h) hS (Val.fldA E79_2 rfl rfl) ?_
          refine WD.one 4 rfl (by kernel_rfl) ?_
          refine WL.call C84 (args := [.agg #[va], .string u.atom.t]) rfl ((l5Get_calls F1 _ h.sub va t q ht hrt hBt hq u.atom.t).mono ?_)
          rintro e w' ⟨F2, sg, bg, rfl, hE, hsg, hbg, _⟩
          have hsub := hE.ext
          have h := h.call hE
          refine ⟨_, rfl, ?_⟩
          refine WL.nil ?_
          have hS : ∃ L' : List Ch, Hp w0 F F1 ([.box b2 [va] 42, .box b3 [vb] 42, .box b4 [.slice none 0 0] 42] ++ L') _ := ⟨_, h.weak hF1 hsub⟩
          refine ⟨hS, ?_⟩
          refine WD.take 5 rfl (by kernel_rfl) (fun _ _ _ h => fin_panic h) hS Val.mv ?_
          refine WD.take 6 rfl (by kernel_rfl) (fun _ _ _ h => fin_panic h) hS (Val.ext (v := .agg #[sg]) rfl rfl) ?_
          refine WD.take 7 rfl (by kernel_rfl) (fun _ _ _ h => fin_panic h) hS (Val.ext (v := .bool bg) rfl rfl) ?_
          refine WD.one 9 rfl (by kernel_rfl) ?_
          refine WL.stS 3 h rfl T42 rfl (vs := [sg]) rfl (one1 hsg) rfl rfl (fun w h => ?_)
          refine WL.nil ?_
          refine ⟨⟨_, h.weak hF1 hsub⟩, ?_⟩
          refine WD.last 10 rfl (by kernel_rfl) rfl ?_
          refine WL.p h Val.as ?_
          refine WL.nil ?_
          refine WD.nil (by kernel_rfl) ?_
          refine W.seq (W.region rfl ?_)
          refine WL.p h Val.mv ?_
          refine WL.call C47 (args := [.bool (bg)]) rfl ((l5Bool_calls _ _ h.sub _).mono ?_)
          rintro e w' ⟨F9, s9, rfl, hE, hrow9⟩
          have h := h.call hE
          refine ⟨_, rfl, ?_⟩
          refine WL.stS 2 h rfl T42 rfl (vs := [s9]) rfl (one1 hrow9.one) rfl rfl (fun w h => ?_)
          refine WL.p h Val.as ?_
          refine WL.nil ?_
          refine W.ret ?_
          exact finBox2 (v := .string ⟨#[]⟩) h 2 rfl rfl rfl A42 T42 rfl rfl (PSW.bool h.toExt hrow9 (by rw [hasA, if_neg (by omega), if_neg (by omega), if_pos k6, if_pos u4, hbg]))
      · refine WL.nil ?_
        refine W.condF rfl ?_
        refine W.skip ?_
        exact ⟨h, by rw [hasA, if_neg k4, if_neg k5, if_pos k6, if_neg u4], rfl⟩
    refine WL.p h Val.as ?_
    refine WL.nil ?_
    refine W.condF rfl ?_
    refine W.skip ?_
    exact ⟨h, by rw [hasA, if_neg k4, if_neg k5, if_neg k6], rfl⟩
  clear h h4
  rintro R w ⟨h, hA, h4⟩
  refine W.seq (W.region rfl ?_)
  refine WL.call C49 (args := [.string wType]) rfl ((l6No_calls _ _ h.sub wType).mono ?_)
  rintro e w' ⟨rfl, hE⟩
  have h := h.call hE
  refine ⟨_, rfl, ?_⟩
  refine WL.p h (Val.ext (v := .agg #[.slice none 0 0]) rfl rfl) ?_
  refine WL.p h (Val.ext (v := .string wType) rfl rfl) ?_
  refine WL.stS 2 h rfl T42 h4 (vs := [.slice none 0 0]) rfl (one1 rfl) rfl rfl (fun w h => ?_)
  refine WL.p h Val.as ?_
  refine WL.nil ?_
  refine W.ret ?_
  exact finBox2 h 2 rfl h4 rfl A42 T42 rfl rfl (PSW.no h.toExt (by exact hA))
end Go.Proofs.Ytmiihhbgfijcmaa.K


/- Op: what the reference's sums need, in plain words. -/
namespace Go.Proofs.Ytmiihhbgfijcmaa.K
open Go Go.RowKit
set_option linter.unusedVariables false
set_option linter.unusedSimpArgs false
set_option maxRecDepth 20000
theorem PSW.of {F w0 w} {F' : Fz} {l l' : List At × ByteArray} {s v : Value} (h : l = l') (hv : v = .string l'.2) (hE : Ext F w0 F' w) (hr : FRow F' s l'.1.length 4 (rowA l'.1)) : PSW F w0 l (.returned (.tuple #[.agg #[s], v])) w := ⟨F', s, by rw [h, hv], hE, by rw [h]; exact hr⟩
theorem KRows.append {F : Fz} {ts us : List T} {ss rs : List Value} (h1 : KRows F ts ss) (h2 : KRows F us rs) : KRows F (ts ++ us) (ss ++ rs) := by
  refine ⟨by simp [h1.len, h2.len], fun i x hx => ?_⟩
  by_cases hi : i < ts.length
  · rw [List.getElem?_append_left hi] at hx
    obtain ⟨s, h3, h4⟩ := h1.get i x hx
    exact ⟨s, by rw [List.getElem?_append_left (by rw [h1.len]; exact hi)]; exact h3, h4⟩
  · rw [List.getElem?_append_right (by omega)] at hx
    obtain ⟨s, h3, h4⟩ := h2.get _ x hx
    exact ⟨s, by rw [List.getElem?_append_right (by rw [h1.len]; omega), h1.len]; exact h3, h4⟩
theorem KRows.one {F : Fz} {ts : List T} {ss : List Value} (h : KRows F ts ss) : ∀ x ∈ ss, x.oneCell' = true := by
  intro x hx
  obtain ⟨i, hi⟩ := List.mem_iff_getElem?.1 hx
  have hl := (List.getElem?_eq_some_iff.1 hi).1
  rw [h.len] at hl
  obtain ⟨s, hs, hr⟩ := h.get i ts[i] (List.getElem?_eq_getElem hl)
  rw [hi] at hs; cases hs; exact hr.one
theorem encs_flat (ts : List T) : (ts.map T.enc).flatten = T.encs ts := by
  induction ts with
  | nil => rfl
  | cons t ts ih => simp [T.encs, ih]
theorem KRows.toKR {F : Fz} {ts : List T} {ss : List Value} (h : KRows F ts ss) : KR F ss (ts.map T.enc) := ⟨by simp [h.len], fun i es he => by
  rw [List.getElem?_map, Option.map_eq_some_iff] at he
  obtain ⟨t, ht, rfl⟩ := he
  exact h.get i t ht⟩
theorem enc_ne (t : T) : t.enc ≠ [] := List.length_pos_iff.1 (enc_pos t)
/-- Values put together, out of trees. -/
theorem make_calls (w0 : World) (kd : Int) (kv : Value) (ss : List Value) (ts : List T) (hrow : FRow (hv w0) kv ts.length 1 ss) (hk : KRows (hv w0) ts ss) (hB : (T.encs ts).length ≤ 1048576) : Calls Try.prog 87 #[.int .i64 kd, kv] w0 (PC w0 (T.encs ts ++ [⟨kd, 0, ⟨#[]⟩, ts.length⟩])) := by
  have := l5Make_new w0 kd kv ss (ts.map T.enc) (by simpa using hrow) hk.toKR (fun es he => by
    obtain ⟨t, _, rfl⟩ := List.mem_map.1 he
    exact enc_ne t) (by rw [encs_flat]; exact hB)
  rw [encs_flat, List.length_map] at this
  exact this
theorem setA_len {α : Type} (n : ByteArray) (v : α) : ∀ (A : AL α), (setA n v A false).length ≤ A.length + 1
  | [] => by simp [setA]
  | (m, x) :: r => by
    have ih := setA_len n v r
    by_cases hk : ltN m n
    · have hmn := ltN_ne hk
      have e : setA n v ((m, x) :: r) false = (m, x) :: setA n v r false := by simp [setA, hk, hmn]
      rw [e]; simp; omega
    · have hf : (r.filter fun p => decide (p.1 ≠ n)).length ≤ r.length := List.length_filter_le _ _
      have e : (setA n v ((m, x) :: r) false).length ≤ 1 + 1 + (r.filter fun p => decide (p.1 ≠ n)).length := by
        simp only [setA, hk, setA_done, List.length_append, Bool.or_true, decide_true, not_false_eq_true, and_self, if_true]
        by_cases h : m = n <;> simp [h]
      simp only [List.length_cons]; omega
theorem encs_sum : ∀ (A : AL T), (T.encs (flatA A)).length = (A.map fun p => 1 + p.2.enc.length).sum
  | [] => rfl
  | p :: A => by
    have e : flatA (p :: A) = [tNode p.1, p.2] ++ flatA A := by simp [flatA]
    rw [e, encs_append, List.length_append, encs_sum A]
    simp [T.encs, tNode_enc]; omega
theorem setA_sum {n : ByteArray} {v : T} : ∀ (A : AL T), ((setA n v A false).map fun p => 1 + p.2.enc.length).sum ≤ (A.map fun p => 1 + p.2.enc.length).sum + (1 + v.enc.length)
  | [] => by simp [setA]
  | (m, x) :: r => by
    have ih := setA_sum (n := n) (v := v) r
    have hfil : ∀ r : AL T, ((r.filter fun p => decide (p.1 ≠ n)).map fun p => 1 + p.2.enc.length).sum ≤ (r.map fun p => 1 + p.2.enc.length).sum := by
      intro r
      induction r with
      | nil => simp
      | cons p r ih =>
        rw [List.filter_cons]
        split <;> simp only [List.map_cons, List.sum_cons] <;> omega
    have hf := hfil r
    by_cases hk : ltN m n
    · have hmn := ltN_ne hk
      have e : setA n v ((m, x) :: r) false = (m, x) :: setA n v r false := by simp [setA, hk, hmn]
      rw [e]; simp only [List.map_cons, List.sum_cons]; omega
    · have e : setA n v ((m, x) :: r) false = (n, v) :: ((if m ≠ n then [(m, x)] else []) ++ r.filter fun p => decide (p.1 ≠ n)) := by
        simp [setA, hk, setA_done]
      rw [e]
      by_cases h : m = n
      · simp only [h, ne_eq, not_true_eq_false, if_false, List.nil_append, List.map_cons, List.sum_cons] at hf ⊢; omega
      · simp only [ne_eq, h, not_false_eq_true, if_true, List.singleton_append, List.map_cons, List.sum_cons] at hf ⊢; omega
theorem sorted_adj {A : AL T} (h : RecOk (flatA A)) : Sorted A := by
  have hadj : ∀ i (hi : i + 1 < A.length), ltN A[i].1 A[i + 1].1 := fun i hi => by
    have h1 := (flatA_get (List.getElem?_eq_getElem (show i < A.length by omega))).1
    have h2 := (flatA_get (List.getElem?_eq_getElem hi)).1
    exact (h (i + 1) _ h2).2 _ (by omega) (by simpa using h1)
  have key : ∀ d i (hi : i + d + 1 < A.length), ltN (A[i]'(by omega)).1 A[i + d + 1].1 := by
    intro d
    induction d with
    | zero => intro i hi; exact hadj i hi
    | succ d ih =>
      intro i hi
      exact ltN_trans (ih i (by omega)) (hadj (i + d + 1) (by omega))
  refine List.pairwise_iff_getElem.2 fun i j hi hj hij => ?_
  have := key (j - i - 1) i (by omega)
  have e : i + (j - i - 1) + 1 = j := by omega
  simp only [e] at this
  exact this
/-- A valid record. -/
theorem Vt.asRec {t : T} (h : Vt t) (h6 : t.atom.k = 6) : ∃ A : AL T, t.kids = flatA A ∧ Sorted A ∧ A.length ≤ 200 ∧ ∀ p ∈ A, p.1.size ≤ 1000 := by
  obtain ⟨it, hit⟩ := h.it
  cases t with
  | node a ks =>
    obtain ⟨k, hk, hi⟩ := evalT_inner h.wf hit
    obtain ⟨hc, hkw⟩ := wf_c h.wf
    have h6 : a.k = 6 := h6
    obtain ⟨ns, vs, q, hl, hq, hn, hv, ht, hr, _⟩ := hi.inv6 h6
    obtain ⟨A, e1, e2, e3, e4, _⟩ := rec_assoc q ks k ns vs hl hkw hk hn hv ht (fun i x hx => (hr i x hx).1)
    subst e1
    exact ⟨A, rfl, sorted_adj hr, by omega, e3⟩
theorem Vt.kid_wf {t : T} (h : Vt t) : ∀ k ∈ t.kids, T.Wf k := by
  cases t with
  | node a ks => exact (wf_c h.wf).2
theorem Vt.kids_len {t : T} (h : Vt t) : (T.encs t.kids).length ≤ 1000 := by
  have h1 := h.len
  rw [enc_eq] at h1
  simp at h1; omega
end Go.Proofs.Ytmiihhbgfijcmaa.K


