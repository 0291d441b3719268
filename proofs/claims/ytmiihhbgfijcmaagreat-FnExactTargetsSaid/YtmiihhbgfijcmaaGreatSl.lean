/- Put together from Sp, Sx, Ap, So, Sl. -/
import Derived.Test.YtmiihhbgfijcmaaGreatPm
import Derived.Test.YtmiihhbgfijcmaaGreatNw
/- Op: the reference's helpers walked. -/
namespace Go.Proofs.YtmiihhbgfijcmaaGreat.K
open Go Go.RowKit
set_option linter.unusedVariables false
set_option linter.unusedSimpArgs false
set_option maxRecDepth 20000
theorem C84 : CF Tryz.prog 57 := ⟨_, Tryz.func57, rfl, rfl⟩
theorem Val.fldA {P : Program} {S : World → Prop} {R : Regs} {d : Option Nat} {ty : TypeId} {pos : String} {af : Array Edge} {g : Option (Nat × Bool)} {s f off : Nat} {x : Operand} {cells : Array Value} {v : Value} (hf : FE P s f off) (hx : ev R x = .agg cells) (hv : cells[off]? = some v) : Val P S R ⟨d, .field s x f, ty, pos, af, g⟩ v := fun w _ => by
  simp only [execOp, hx, Sem.run_bind, hf cells v w hv, Result.andThen_ok, Sem.run_pure]
/-! ### A text in a text -/
theorem ext_list (s : ByteArray) (i n : Nat) : (s.extract i (i + n)).data.toList = (s.data.toList.drop i).take n := by
  simp [ByteArray.data_extract, Array.toList_extract]
/-! ### What a record names -/
def getT : List T → ByteArray → Option T
  | x :: y :: r, s => if x.atom.t = s then some y else getT r s
  | _, _ => none
theorem getT_step {ks : List T} {j : Nat} {x y : T} (s : ByteArray) (hx : ks[2 * j]? = some x) (hy : ks[2 * j + 1]? = some y) : getT (ks.drop (2 * j)) s = if x.atom.t = s then some y else getT (ks.drop (2 * (j + 1))) s := by
  obtain ⟨l1, e1⟩ := List.getElem?_eq_some_iff.1 hx
  obtain ⟨l2, e2⟩ := List.getElem?_eq_some_iff.1 hy
  rw [List.drop_eq_getElem_cons l1, List.drop_eq_getElem_cons l2, e1, e2, getT]
  rfl
def PGet (F : Fz) (w0 : World) (ks : List T) (name : ByteArray) (e : Ending) (w : World) : Prop :=
  ∃ F' s b, e = .returned (.tuple #[.agg #[s], .bool b]) ∧ Ext F w0 F' w ∧ s.oneCell' = true ∧ b = (getT ks name).isSome ∧ ∀ x, getT ks name = some x → FRow F' s x.enc.length 4 (rowA x.enc)
theorem l5Get_calls (F : Fz) (w0 : World) (hF : Sub F (hv w0)) (v : Value) (t : T) (q : Nat) (ht : t.Wf) (hr : FRow F v t.enc.length 4 (rowA t.enc)) (hB : t.enc.length ≤ 1048576) (hq : t.kids.length = 2 * q) (name : ByteArray) : Calls Tryz.prog 57 #[.agg #[v], .string name] w0 (PGet F w0 t.kids name) := by
  refine calls 35 Tryz.func57 rfl rfl rfl ?_
  have h := Hp.start hF
  have hkl : t.kids.length ≤ 1048576 := by
    have := encs_ge t.kids
    have e := enc_eq t
    rw [e] at hB
    simp at hB; omega
  refine W.seq (W.region rfl ?_)
  refine WL.box h rfl (fun b2 w h => ?_)
  refine WL.alloc h T42 (fun b4 w h => ?_)
  refine WL.p h Val.as ?_
  refine WL.nil ?_
  refine W.seq (W.region rfl ?_)
  refine WL.p h (Val.ldS 0 A42 T42 rfl rfl rfl) ?_
  refine WL.call C69 (args := [.agg #[v]]) rfl ((l5Kids_calls F w h.sub v _ hr hB).mono ?_)
  rintro e w' ⟨F1, u, us, ok, rfl, hE, hk⟩
  rw [kidsP_enc t ht] at hk
  obtain ⟨rfl, hrow, hkr⟩ := hk
  have h := h.call hE
  refine ⟨_, rfl, ?_⟩
  refine WL.p h Val.mv ?_
  refine WL.p h (Val.ext (v := u) rfl rfl) ?_
  refine WL.p h (Val.ext (v := .bool true) rfl rfl) ?_
  refine WL.p h Val.as ?_
  refine WL.p h Val.as ?_
  refine WL.nil ?_
  refine W.seq (W.seq (W.region rfl ?_))
  refine WL.p h Val.as ?_
  refine WL.nil ?_
  refine W.block ?_
  refine W.loop (fun m R w => ∃ j, m + j = q ∧ Hp w0 F F1 [.box b2 [v] 45, .box b4 [.slice none 0 0] 45] w ∧ getT (t.kids.drop (2 * j)) name = getT t.kids name ∧ R 1 = .string name ∧ R 4 = pt b4 ∧ R 6 = u ∧ R 8 = .int .i64 ((2 * j : Nat) : Int)) q ⟨0, by omega, h, by simp, rfl, rfl, rfl, rfl⟩ (fun m R w hI => ?_)
  clear h
  obtain ⟨j, hm, h, hg, h1, h4, h6, h8⟩ := hI
  refine W.seq (W.seq (W.region rfl ?_))
  refine WL.p h Val.mv ?_
  refine WL.p h (Val.addi (c := ((2 * j + 1 : Nat) : Int)) h8 rfl (by omega)) ?_
  refine WL.p h Val.mv ?_
  refine WL.p h (Val.len Tryz.underlying74 h6 hrow.val) ?_
  refine WL.p h (Val.lt rfl rfl) ?_
  refine WL.dec (fun c1 => ?_) (fun c1 => ?_)
  · obtain ⟨x, hx⟩ : ∃ x, t.kids[2 * j]? = some x := ⟨_, List.getElem?_eq_getElem (by omega)⟩
    obtain ⟨y, hy⟩ : ∃ y, t.kids[2 * j + 1]? = some y := ⟨_, List.getElem?_eq_getElem (by omega)⟩
    obtain ⟨s1, hs1, hr1⟩ := hkr.get _ x hx
    obtain ⟨s2, hs2, hr2⟩ := hkr.get _ y hy
    rw [getT_step name hx hy] at hg
    refine WL.nil ?_
    refine W.condT rfl ?_
    refine W.skip ?_
    refine W.seq (W.block ?_)
    refine W.seq (W.region rfl ?_)
    refine WL.p h Val.mv ?_
    refine WL.p h Val.mv ?_
    refine WL.p h (Val.ix (i := 2 * j) Tryz.underlying74 T42 h6 h8 (hrow.slice (by omega)) (by omega)) ?_
    refine WL.p h (Val.ldRS A42 T42 hrow rfl (cs := [s1]) rfl (one_cell hs1)) ?_
    refine WL.call C48 (args := [.agg #[s1]]) rfl ((l5Last_calls F1 _ h.sub s1 x.enc hr1 x.atom (enc_last x)).mono ?_)
    rintro e w' ⟨rfl, hE⟩
    have h := h.call hE
    refine ⟨_, rfl, ?_⟩
    refine WL.p h (Val.fld E79_2 rfl rfl) ?_
    refine WL.p h Val.mv ?_
    refine WL.p h (Val.sEq rfl h1) ?_
    refine WL.dec (fun c2 => ?_) (fun c2 => ?_)
    · rw [if_pos c2] at hg
      refine WL.nil ?_
      refine W.condT rfl ?_
      refine W.seq (W.region rfl ?_)
      refine WL.p h Val.mv ?_
      refine WL.p h Val.mv ?_
      refine WL.p h (Val.addi (c := ((2 * j + 1 : Nat) : Int)) h8 rfl (by omega)) ?_
      refine WL.p h (Val.ix (i := 2 * j + 1) Tryz.underlying74 T42 h6 rfl (hrow.slice (by omega)) (by omega)) ?_
      refine WL.p h (Val.ldRS A42 T42 hrow rfl (cs := [s2]) rfl (one_cell hs2)) ?_
      refine WL.stS 1 h rfl T42 h4 (vs := [s2]) rfl (one1 hr2.one) rfl rfl (fun w h => ?_)
      refine WL.p h Val.as ?_
      refine WL.nil ?_
      refine W.ret ?_
      exact finBox2 h 1 rfl h4 rfl A42 T42 rfl rfl ⟨F1, s2, true, rfl, h.toExt, hr2.one, by rw [← hg]; rfl, fun z hz => by rw [← hg] at hz; cases hz; exact hr2⟩
    · rw [if_neg c2] at hg
      refine WL.nil ?_
      refine W.condF rfl ?_
      refine W.skip ?_
      refine W.region rfl ?_
      refine WL.p h Val.mv ?_
      refine WL.p h (Val.addi (c := ((2 * (j + 1) : Nat) : Int)) h8 rfl (by omega)) ?_
      refine WL.p h Val.as ?_
      refine WL.nil ?_
      exact ⟨m - 1, by omega, j + 1, by omega, h, hg, h1, h4, h6, rfl⟩
  · have hd : t.kids.drop (2 * j) = [] := List.drop_eq_nil_of_le (by omega)
    rw [hd] at hg
    refine WL.nil ?_
    refine W.condF rfl ?_
    refine W.exit ?_
    refine W.seq (W.region rfl ?_)
    refine WL.p h (Val.build0 B42e) ?_
    refine WL.stS 1 h rfl T42 h4 (vs := [.slice none 0 0]) rfl (one1 rfl) rfl rfl (fun w h => ?_)
    refine WL.p h Val.as ?_
    refine WL.nil ?_
    refine W.ret ?_
    exact finBox2 h 1 rfl h4 rfl A42 T42 rfl rfl ⟨F1, _, false, rfl, h.toExt, rfl, by rw [← hg]; rfl, fun z hz => by rw [← hg] at hz; cases hz⟩
/-! ### A copy of what is valid -/
end Go.Proofs.YtmiihhbgfijcmaaGreat.K


/- l5Set, exactly: a name set in a record's kids. -/
namespace Go.Proofs.YtmiihhbgfijcmaaGreat.K
open Go Go.RowKit
set_option linter.unusedVariables false
set_option linter.unusedSimpArgs false
set_option maxRecDepth 20000
def setTl (name : ByteArray) (v : T) : List T → Bool → List T
  | x :: y :: r, done => (if done = false ∧ ¬ ltN x.atom.t name then [tNode name, v] else []) ++ ((if x.atom.t ≠ name then [x, y] else []) ++ setTl name v r (done || decide (¬ ltN x.atom.t name)))
  | _, done => if done = true then [] else [tNode name, v]
theorem setTl_step {ks : List T} {j : Nat} {x y v : T} {name : ByteArray} (done : Bool) (hx : ks[2 * j]? = some x) (hy : ks[2 * j + 1]? = some y) : setTl name v (ks.drop (2 * j)) done = (if done = false ∧ ¬ ltN x.atom.t name then [tNode name, v] else []) ++ ((if x.atom.t ≠ name then [x, y] else []) ++ setTl name v (ks.drop (2 * (j + 1))) (done || decide (¬ ltN x.atom.t name))) := by
  obtain ⟨l1, e1⟩ := List.getElem?_eq_some_iff.1 hx
  obtain ⟨l2, e2⟩ := List.getElem?_eq_some_iff.1 hy
  rw [List.drop_eq_getElem_cons l1, List.drop_eq_getElem_cons l2, e1, e2, setTl]
  rfl
theorem flatA_app (A B : AL T) : flatA (A ++ B) = flatA A ++ flatA B := by simp [flatA]
theorem setTl_flat (n : ByteArray) (v : T) : ∀ (A : AL T) (d : Bool), setTl n v (flatA A) d = flatA (setA n v A d)
  | [], d => by cases d <;> simp [flatA, setTl, setA]
  | (m, x) :: r, d => by
    have e : flatA ((m, x) :: r) = tNode m :: x :: flatA r := by simp [flatA]
    have e2 : (tNode m).atom.t = m := rfl
    rw [e, setTl, setA, flatA_app, flatA_app, setTl_flat n v r, e2, List.append_assoc]
    congr 1
    · split <;> simp [flatA]
    · congr 1
      split <;> simp [flatA]
def addTl : List T → List T → List T
  | p, x :: y :: r => addTl (setTl x.atom.t y p false) r
  | p, _ => p
theorem addTl_step {p ks : List T} {j : Nat} {x y : T} (hx : ks[2 * j]? = some x) (hy : ks[2 * j + 1]? = some y) : addTl p (ks.drop (2 * j)) = addTl (setTl x.atom.t y p false) (ks.drop (2 * (j + 1))) := by
  obtain ⟨l1, e1⟩ := List.getElem?_eq_some_iff.1 hx
  obtain ⟨l2, e2⟩ := List.getElem?_eq_some_iff.1 hy
  rw [List.drop_eq_getElem_cons l1, List.drop_eq_getElem_cons l2, e1, e2, addTl]
  rfl
theorem addTl_flat : ∀ (B A : AL T), addTl (flatA A) (flatA B) = flatA (setAll A B)
  | [], A => by simp [flatA, addTl, setAll]
  | (m, x) :: r, A => by
    have e : flatA ((m, x) :: r) = tNode m :: x :: flatA r := by simp [flatA]
    have e2 : (tNode m).atom.t = m := rfl
    rw [e, addTl, e2, setTl_flat, addTl_flat r]
    rfl
theorem KRows.nil {F : Fz} : KRows F [] [] := ⟨rfl, fun i es he => by simp at he⟩
theorem KRows.mono {F G : Fz} {ts : List T} {ss : List Value} (h : KRows F ts ss) (hs : Sub F G) : KRows G ts ss := ⟨h.len, fun i es he => by
  obtain ⟨s, h1, h2⟩ := h.get i es he
  exact ⟨s, h1, h2.mono hs⟩⟩
theorem KRows.snoc {F : Fz} {ts : List T} {ss : List Value} (h : KRows F ts ss) {s : Value} {t : T} (hr : FRow F s t.enc.length 4 (rowA t.enc)) : KRows F (ts ++ [t]) (ss ++ [s]) := ⟨by simp [h.len], fun i t' he => by
  by_cases hi : i < ts.length
  · rw [List.getElem?_append_left hi] at he
    obtain ⟨s', h1, h2⟩ := h.get i t' he
    exact ⟨s', by rw [List.getElem?_append_left (by rw [h.len]; exact hi)]; exact h1, h2⟩
  · have h0 : i = ts.length := by
      have := (List.getElem?_eq_some_iff.1 he).1
      simp at this; omega
    subst h0
    rw [List.getElem?_append_right (Nat.le_refl _), Nat.sub_self] at he
    simp at he; subst he
    exact ⟨s, by rw [List.getElem?_append_right (by rw [h.len]; exact Nat.le_refl _), h.len, Nat.sub_self]; rfl, hr⟩⟩
theorem tNode_enc (s : ByteArray) : (tNode s).enc = [⟨4, 0, s, 0⟩] := by simp [tNode, T.enc, T.encs]
theorem ge_iff (a b : ByteArray) : (!(Op.bytesLess a.toList b.toList)) = true ↔ ¬ ltN a b := by
  unfold ltN
  cases Op.bytesLess a.toList b.toList <;> simp
def sxI (w0 : World) (F : Fz) (kv s : Value) (name : ByteArray) (x : T) (tot rest : List T) (b5 N : Nat) (done : Bool) (R : Regs) (w : World) : Prop :=
  ∃ (F' : Fz) (ov : Value) (oss : List Value) (ots : List T), Sub F F' ∧ Hp w0 F F' [.box b5 [s] 45, .own ov 45 1 ots.length oss] w ∧ KRows F' ots oss ∧ ots.length ≤ N ∧ ots ++ rest = tot ∧
    R 0 = kv ∧ R 1 = .string name ∧ R 5 = pt b5 ∧ R 7 = ov ∧ R 8 = .bool done
def PSx (F : Fz) (w0 : World) (ts : List T) (e : Ending) (w : World) : Prop :=
  ∃ (F' : Fz) (kv : Value) (ss : List Value), e = .returned kv ∧ Ext F w0 F' w ∧ FRow F' kv ts.length 1 ss ∧ KRows F' ts ss
end Go.Proofs.YtmiihhbgfijcmaaGreat.K


/- append of a row, an empty one too. -/
namespace Go.Proofs.YtmiihhbgfijcmaaGreat.K
open Go Go.RowKit
set_option linter.unusedVariables false
set_option linter.unusedSimpArgs false
section
variable {P : Program} {R : Regs} {w0 : World} {F0 F : Fz} {L : List Ch} {d : Option Nat} {ty : TypeId} {pos : String} {af : Array Edge} {g : Option (Nat × Bool)}
variable {n : Nat} {ops : Array Oper} {Q : Post} {w : World} {rest : List Oper}
theorem run_app0 {T e size bytes nn sc c : Nat} {z : Value} {A B : Option Addr} {ty : TypeId} (ht : P.underlying T = some (.slice e)) (hT : TI P e z size bytes) (hle : nn ≤ sc) (w : World) :
    (Builtin.append_ #[T, T] ty #[.slice A nn sc, .slice B 0 c]).run P w = .ok (.slice A nn sc) w := by
  have hz : ∀ a : Addr, (loadCells a 0).run P w = .ok #[] w := fun a => rfl
  cases A <;> cases B <;> simp [Builtin.append_, run_underlying ht, hT.sizeOf w, Builtin.lenOf, Builtin.firstCells, hle, hz, storeCells]
theorem WL.appR (i : Nat) {T e size bytes m nn : Nat} {z : Value} {x y : Operand} {v u : Value} {xs news : List Value} (h : Hp w0 F0 F L w) (hi : L[i]? = some (.own v e size nn xs)) (ht : P.underlying T = some (.slice e)) (hT : TI P e z size bytes) (hsz : 0 < size)
    (hx : ev R x = v) (hy : ev R y = u) (hr : FRow (hv w) u m size news) (h1 : ∀ u ∈ news, u.oneCell' = true) (h63 : nn + m ≤ 9223372036854775807) (hb : (nn + m) * bytes ≤ 140737488355328)
    (k : ∀ v' w', Hp w0 F0 F (L.set i (.own v' e size (nn + m) (xs ++ news))) w' → WL P n ops Q rest (updO R d v') w') (hw : wantB ops R g = true := by rfl) : WL P n ops Q (⟨d, .call { callee := .builtin .append, args := #[x, y], argTypes := #[T, T] }, ty, pos, af, g⟩ :: rest) R w := by
  by_cases h0 : m = 0
  · subst h0
    obtain ⟨B, c, rfl, _⟩ := hr.val
    obtain ⟨A, sc, rfl, hle⟩ := (h.row i hi).val
    have hn : news = [] := List.eq_nil_of_length_eq_zero (by rw [hr.len]; simp)
    subst hn
    refine WL.val (v := .slice A nn sc) (w' := w) hw ?_ (k _ _ (by
      have := h.retell i (.own (.slice A nn sc) e size (nn + 0) (xs ++ [])) hi (by simpa using h.holds i _ hi) (fun b hb => hb)
      exact this))
    have := run_app0 (P := P) (ty := ty) (A := A) (B := B) (c := c) ht hT hle w
    unfold execOp
    simp only [resolve, invoke, builtin, Sem.run_bind, Sem.run_pure, Result.andThen_ok, List.map_toArray, List.map_cons, List.map_nil, hx, hy, this]
  · obtain ⟨c, hc⟩ := hr.slice (by omega)
    exact WL.app i h hi ht hT hsz hx (hy.trans hc) hr.len (fun j u hu => by rw [add_plain]; exact hr.cell (Sub.refl _) hu) h1 h63 hb k hw
end
end Go.Proofs.YtmiihhbgfijcmaaGreat.K

/- Op: the reference's op, walked. -/
namespace Go.Proofs.YtmiihhbgfijcmaaGreat.K
open Go Go.RowKit
set_option linter.unusedVariables false
set_option linter.unusedSimpArgs false
set_option maxRecDepth 20000
def boolA (b : Bool) : List At × ByteArray := ([⟨2, if b then 1 else 0, ⟨#[]⟩, 0⟩], ⟨#[]⟩)
def addA (t u : T) : List At × ByteArray :=
  if t.atom.k ≠ u.atom.k then ([], wType)
  else if t.atom.k = 3 then (numR 10 t.atom.n u.atom.n).at
  else if t.atom.k = 4 then rightA [⟨4, 0, t.atom.t ++ u.atom.t, 0⟩]
  else if t.atom.k = 5 then rightA (T.encs (t.kids ++ u.kids) ++ [⟨5, 0, ⟨#[]⟩, (t.kids ++ u.kids).length⟩])
  else if t.atom.k = 6 then rightA (T.encs (addTl t.kids u.kids) ++ [⟨6, 0, ⟨#[]⟩, (addTl t.kids u.kids).length⟩])
  else ([], wType)
theorem PSW.bool {F w0 w} {F' : Fz} {l : List At × ByteArray} {s : Value} {b : Bool} (hE : Ext F w0 F' w) (hr : FRow F' s 1 4 (rowA [⟨2, if b then 1 else 0, ⟨#[]⟩, 0⟩])) (h : l = boolA b) : PSW F w0 l (.returned (.tuple #[.agg #[s], .string ⟨#[]⟩])) w := ⟨F', s, by rw [h]; rfl, hE, by rw [h]; exact hr⟩
/-- What is known of a valid tree. -/
structure Vt (t : T) : Prop where
  wf : t.Wf
  len : t.enc.length ≤ 1000
  it : ∃ it, evalT t = some it
  num : inR t.atom.n
theorem Vt.kids {t : T} (h : Vt t) : t.kids.length ≤ 1000 := by
  have h1 := encs_ge t.kids
  have h2 := enc_eq t
  have h3 := h.len
  rw [h2] at h3; simp at h3; omega
theorem Vt.text {t : T} (h : Vt t) (h4 : t.atom.k = 4) : t.atom.t.size ≤ 1000 := by
  obtain ⟨it, hit⟩ := h.it
  cases t with
  | node a ks =>
    obtain ⟨k, hk, hi⟩ := evalT_inner h.wf hit
    have h4 : a.k = 4 := h4
    exact (hi.inv4 h4).2.1
theorem Vt.even {t : T} (h : Vt t) (h6 : t.atom.k = 6) : ∃ q, t.kids.length = 2 * q := by
  obtain ⟨it, hit⟩ := h.it
  cases t with
  | node a ks =>
    obtain ⟨k, hk, hi⟩ := evalT_inner h.wf hit
    have h6 : a.k = 6 := h6
    obtain ⟨ns, vs, q, hl, _⟩ := hi.inv6 h6
    exact ⟨q, hl⟩
end Go.Proofs.YtmiihhbgfijcmaaGreat.K


/- Op: what the reference's sums need, in plain words. -/
namespace Go.Proofs.YtmiihhbgfijcmaaGreat.K
open Go Go.RowKit
set_option linter.unusedVariables false
set_option linter.unusedSimpArgs false
set_option maxRecDepth 20000
theorem PSW.of {F w0 w} {F' : Fz} {l l' : List At × ByteArray} {s v : Value} (h : l = l') (hv : v = .string l'.2) (hE : Ext F w0 F' w) (hr : FRow F' s l'.1.length 4 (rowA l'.1)) : PSW F w0 l (.returned (.tuple #[.agg #[s], v])) w := ⟨F', s, by rw [h, hv], hE, by rw [h]; exact hr⟩
theorem KRows.append {F : Fz} {ts us : List T} {ss rs : List Value} (h1 : KRows F ts ss) (h2 : KRows F us rs) : KRows F (ts ++ us) (ss ++ rs) := by
  refine ⟨by simp [h1.len, h2.len], fun i x hx => ?_⟩
  by_cases hi : i < ts.length
  · rw [List.getElem?_append_left hi] at hx
    obtain ⟨s, h3, h4⟩ := h1.get i x hx
    exact ⟨s, by rw [List.getElem?_append_left (by rw [h1.len]; exact hi)]; exact h3, h4⟩
  · rw [List.getElem?_append_right (by omega)] at hx
    obtain ⟨s, h3, h4⟩ := h2.get _ x hx
    exact ⟨s, by rw [List.getElem?_append_right (by rw [h1.len]; omega), h1.len]; exact h3, h4⟩
theorem KRows.one {F : Fz} {ts : List T} {ss : List Value} (h : KRows F ts ss) : ∀ x ∈ ss, x.oneCell' = true := by
  intro x hx
  obtain ⟨i, hi⟩ := List.mem_iff_getElem?.1 hx
  have hl := (List.getElem?_eq_some_iff.1 hi).1
  rw [h.len] at hl
  obtain ⟨s, hs, hr⟩ := h.get i ts[i] (List.getElem?_eq_getElem hl)
  rw [hi] at hs; cases hs; exact hr.one
theorem encs_flat (ts : List T) : (ts.map T.enc).flatten = T.encs ts := by
  induction ts with
  | nil => rfl
  | cons t ts ih => simp [T.encs, ih]
theorem KRows.toKR {F : Fz} {ts : List T} {ss : List Value} (h : KRows F ts ss) : KR F ss (ts.map T.enc) := ⟨by simp [h.len], fun i es he => by
  rw [List.getElem?_map, Option.map_eq_some_iff] at he
  obtain ⟨t, ht, rfl⟩ := he
  exact h.get i t ht⟩
theorem enc_ne (t : T) : t.enc ≠ [] := List.length_pos_iff.1 (enc_pos t)
theorem setA_len {α : Type} (n : ByteArray) (v : α) : ∀ (A : AL α), (setA n v A false).length ≤ A.length + 1
  | [] => by simp [setA]
  | (m, x) :: r => by
    have ih := setA_len n v r
    by_cases hk : ltN m n
    · have hmn := ltN_ne hk
      have e : setA n v ((m, x) :: r) false = (m, x) :: setA n v r false := by simp [setA, hk, hmn]
      rw [e]; simp; omega
    · have hf : (r.filter fun p => decide (p.1 ≠ n)).length ≤ r.length := List.length_filter_le _ _
      have e : (setA n v ((m, x) :: r) false).length ≤ 1 + 1 + (r.filter fun p => decide (p.1 ≠ n)).length := by
        simp only [setA, hk, setA_done, List.length_append, Bool.or_true, decide_true, not_false_eq_true, and_self, if_true]
        by_cases h : m = n <;> simp [h]
      simp only [List.length_cons]; omega
theorem encs_sum : ∀ (A : AL T), (T.encs (flatA A)).length = (A.map fun p => 1 + p.2.enc.length).sum
  | [] => rfl
  | p :: A => by
    have e : flatA (p :: A) = [tNode p.1, p.2] ++ flatA A := by simp [flatA]
    rw [e, encs_append, List.length_append, encs_sum A]
    simp [T.encs, tNode_enc]; omega
theorem setA_sum {n : ByteArray} {v : T} : ∀ (A : AL T), ((setA n v A false).map fun p => 1 + p.2.enc.length).sum ≤ (A.map fun p => 1 + p.2.enc.length).sum + (1 + v.enc.length)
  | [] => by simp [setA]
  | (m, x) :: r => by
    have ih := setA_sum (n := n) (v := v) r
    have hfil : ∀ r : AL T, ((r.filter fun p => decide (p.1 ≠ n)).map fun p => 1 + p.2.enc.length).sum ≤ (r.map fun p => 1 + p.2.enc.length).sum := by
      intro r
      induction r with
      | nil => simp
      | cons p r ih =>
        rw [List.filter_cons]
        split <;> simp only [List.map_cons, List.sum_cons] <;> omega
    have hf := hfil r
    by_cases hk : ltN m n
    · have hmn := ltN_ne hk
      have e : setA n v ((m, x) :: r) false = (m, x) :: setA n v r false := by simp [setA, hk, hmn]
      rw [e]; simp only [List.map_cons, List.sum_cons]; omega
    · have e : setA n v ((m, x) :: r) false = (n, v) :: ((if m ≠ n then [(m, x)] else []) ++ r.filter fun p => decide (p.1 ≠ n)) := by
        simp [setA, hk, setA_done]
      rw [e]
      by_cases h : m = n
      · simp only [h, ne_eq, not_true_eq_false, if_false, List.nil_append, List.map_cons, List.sum_cons] at hf ⊢; omega
      · simp only [ne_eq, h, not_false_eq_true, if_true, List.singleton_append, List.map_cons, List.sum_cons] at hf ⊢; omega
theorem sorted_adj {A : AL T} (h : RecOk (flatA A)) : Sorted A := by
  have hadj : ∀ i (hi : i + 1 < A.length), ltN A[i].1 A[i + 1].1 := fun i hi => by
    have h1 := (flatA_get (List.getElem?_eq_getElem (show i < A.length by omega))).1
    have h2 := (flatA_get (List.getElem?_eq_getElem hi)).1
    exact (h (i + 1) _ h2).2 _ (by omega) (by simpa using h1)
  have key : ∀ d i (hi : i + d + 1 < A.length), ltN (A[i]'(by omega)).1 A[i + d + 1].1 := by
    intro d
    induction d with
    | zero => intro i hi; exact hadj i hi
    | succ d ih =>
      intro i hi
      exact ltN_trans (ih i (by omega)) (hadj (i + d + 1) (by omega))
  refine List.pairwise_iff_getElem.2 fun i j hi hj hij => ?_
  have := key (j - i - 1) i (by omega)
  have e : i + (j - i - 1) + 1 = j := by omega
  simp only [e] at this
  exact this
/-- A valid record. -/
theorem Vt.asRec {t : T} (h : Vt t) (h6 : t.atom.k = 6) : ∃ A : AL T, t.kids = flatA A ∧ Sorted A ∧ A.length ≤ 200 ∧ ∀ p ∈ A, p.1.size ≤ 1000 := by
  obtain ⟨it, hit⟩ := h.it
  cases t with
  | node a ks =>
    obtain ⟨k, hk, hi⟩ := evalT_inner h.wf hit
    obtain ⟨hc, hkw⟩ := wf_c h.wf
    have h6 : a.k = 6 := h6
    obtain ⟨ns, vs, q, hl, hq, hn, hv, ht, hr, _⟩ := hi.inv6 h6
    obtain ⟨A, e1, e2, e3, e4, _⟩ := rec_assoc q ks k ns vs hl hkw hk hn hv ht (fun i x hx => (hr i x hx).1)
    subst e1
    exact ⟨A, rfl, sorted_adj hr, by omega, e3⟩
theorem Vt.kid_wf {t : T} (h : Vt t) : ∀ k ∈ t.kids, T.Wf k := by
  cases t with
  | node a ks => exact (wf_c h.wf).2
theorem Vt.kids_len {t : T} (h : Vt t) : (T.encs t.kids).length ≤ 1000 := by
  have h1 := h.len
  rw [enc_eq] at h1
  simp at h1; omega
end Go.Proofs.YtmiihhbgfijcmaaGreat.K



