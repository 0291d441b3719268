/- Put together from Pk, Mk, Un, Ui, Kh. -/
import Derived.Test.YtmiihhbgfijcmaaGreatOi
import Derived.Test.YtmiihhbgfijcmaaGreatLv
import Derived.Test.YtmiihhbgfijcmaaGreatKg
/- pack: the program's inner values written out as atoms; walked. -/
namespace Go.Proofs.YtmiihhbgfijcmaaGreat.K
open Go Go.RowKit
set_option linter.unusedVariables false
set_option linter.unusedSimpArgs false
set_option maxRecDepth 20000
theorem B79n (k n : Int) : Tryz.prog.built 78 [(0, .int .i64 k), (1, .int .i64 n)] = some #[.int .i64 k, .int .i64 n, .string ⟨#[]⟩, .int .i64 0] := by kernel_rfl
theorem B79t (k : Int) (s : ByteArray) : Tryz.prog.built 78 [(0, .int .i64 k), (2, .string s)] = some #[.int .i64 k, .int .i64 0, .string s, .int .i64 0] := by kernel_rfl
theorem B79c (k n : Int) : Tryz.prog.built 78 [(0, .int .i64 k), (3, .int .i64 n)] = some #[.int .i64 k, .int .i64 0, .string ⟨#[]⟩, .int .i64 n] := by kernel_rfl

mutual
def packV : V → List At
  | .none => [⟨1, 0, ⟨#[]⟩, 0⟩]
  | .bool b => [⟨2, if b then 1 else 0, ⟨#[]⟩, 0⟩]
  | .int n => [⟨3, n, ⟨#[]⟩, 0⟩]
  | .text s => [⟨4, 0, s, 0⟩]
  | .list l => packVs l ++ [⟨5, 0, ⟨#[]⟩, l.length⟩]
  | .record ns vs => packR ns vs ++ [⟨6, 0, ⟨#[]⟩, 2 * ns.length⟩]
def packVs : List V → List At
  | [] => []
  | v :: vs => packV v ++ packVs vs
def packR : List ByteArray → List V → List At
  | n :: ns, v :: vs => ⟨4, 0, n, 0⟩ :: (packV v ++ packR ns vs)
  | _, _ => []
end
theorem packVs_app : ∀ (a b : List V), packVs (a ++ b) = packVs a ++ packVs b
  | [], b => by simp [packVs]
  | v :: a, b => by simp [packVs, packVs_app a b]
theorem packR_app : ∀ (ns : List ByteArray) (vs : List V) (n : ByteArray) (v : V), ns.length = vs.length → packR (ns ++ [n]) (vs ++ [v]) = packR ns vs ++ (⟨4, 0, n, 0⟩ :: packV v)
  | [], [], n, v, _ => by simp [packR]
  | a :: ns, b :: vs, n, v, h => by simp [packR, packR_app ns vs n v (by simpa using h)]
theorem packVs_le : ∀ (l : List V) (i : Nat) (v : V), l[i]? = some v → (packVs (l.take i)).length + (packV v).length ≤ (packVs l).length
  | [], i, v, h => by simp at h
  | x :: l, 0, v, h => by simp at h; subst h; simp [packVs]
  | x :: l, i + 1, v, h => by
    have := packVs_le l i v (by simpa using h)
    simp only [List.take_succ_cons, packVs, List.length_append]; omega
theorem packR_le : ∀ (ns : List ByteArray) (l : List V) (i : Nat) (n : ByteArray) (v : V), ns[i]? = some n → l[i]? = some v → (packR (ns.take i) (l.take i)).length + 1 + (packV v).length ≤ (packR ns l).length
  | [], l, i, n, v, h, _ => by simp at h
  | a :: ns, [], i, n, v, _, h => by simp at h
  | a :: ns, x :: l, 0, n, v, h1, h => by simp at h; subst h; simp [packR]; omega
  | a :: ns, x :: l, i + 1, n, v, h1, h => by
    have := packR_le ns l i n v (by simpa using h1) (by simpa using h)
    simp only [List.take_succ_cons, packR, List.length_append, List.length_cons]; omega

theorem packV_pos (v : V) : 0 < (packV v).length := by cases v <;> simp [packV]
theorem packVs_ge : ∀ (l : List V), l.length ≤ (packVs l).length
  | [] => by simp
  | v :: l => by have := packVs_ge l; have := packV_pos v; simp only [packVs, List.length_append, List.length_cons]; omega
theorem packR_ge : ∀ (ns : List ByteArray) (l : List V), ns.length = l.length → 2 * ns.length ≤ (packR ns l).length
  | [], [], _ => by simp
  | n :: ns, v :: l, h => by have := packR_ge ns l (by simpa using h); have := packV_pos v; simp only [packR, List.length_append, List.length_cons]; omega
def pt (b : Nat) : Value := .pointer (some ⟨b, 0, none⟩)
def addF (b3 : Nat) : Value := .func (.func 98) #[] #[pt b3]
def putF (b4 b5 : Nat) : Value := .func (.func 99) #[] #[pt b5, pt b4]
theorem rowA_app (es fs : List At) : rowA (es ++ fs) = rowA es ++ rowA fs := by simp [rowA]
end Go.Proofs.YtmiihhbgfijcmaaGreat.K



/- The laws' marks: a value's memory is overwritten, and read back. -/
namespace Go.Proofs.YtmiihhbgfijcmaaGreat.K
open Go Go.RowKit
set_option linter.unusedVariables false
set_option linter.unusedSimpArgs false
set_option maxRecDepth 20000
theorem C79 : CF Tryz.prog 30 := ⟨_, Tryz.func30, rfl, rfl⟩
theorem C53 : CF Tryz.prog 31 := ⟨_, Tryz.func31, rfl, rfl⟩
def digit (n : Nat) : Int := IntKind.u8.wrap (48 + ((n % 10 : Nat) : Int))
def mtD (n : Nat) (s : ByteArray) : ByteArray := if n = 0 then s else mtD (n / 10) (strOfNums [digit n] ++ s)
termination_by n
decreasing_by omega
def mt (k : Int) : ByteArray := if k ≤ 0 then ⟨#[109, 48]⟩ else ⟨#[109]⟩ ++ mtD k.toNat ⟨#[]⟩
theorem son_size (a : Int) : (strOfNums [a]).size = 1 := by simp [strOfNums]; rfl
def mtI (w0 : World) (F : Fz) (k : Int) (m : Nat) (R : Regs) (w : World) : Prop :=
  ∃ (s : ByteArray), Hp w0 F F [] w ∧ R 0 = .int .i64 (m : Int) ∧ R 3 = .string s ∧ s.size + m ≤ k.toNat ∧ mtD m s = mtD k.toNat ⟨#[]⟩
theorem markText_calls (F : Fz) (w0 : World) (hF : Sub F (hv w0)) (k : Int) (hk : k ≤ 1073741824) : Calls Tryz.prog 30 #[.int .i64 k] w0 fun e w' => e = .returned (.string (mt k)) ∧ Ext F w0 F w' := by
  refine calls 20 Tryz.func30 rfl rfl rfl ?_
  have h := Hp.start hF
  refine W.seq (W.region rfl ?_)
  refine WL.p h Val.as ?_
  refine WL.nil ?_
  refine W.seq (W.seq (W.region rfl ?_))
  refine WL.p h Val.mv ?_
  refine WL.p h (Val.le rfl rfl) ?_
  refine WL.dec (fun c1 => ?_) (fun c1 => ?_)
  · refine WL.nil ?_
    refine W.condT rfl ?_
    refine W.seq (W.region rfl ?_)
    refine WL.p h Val.as ?_
    refine WL.nil ?_
    refine W.ret ?_
    exact fin1 (v := .string ⟨#[109, 48]⟩) rfl rfl ⟨by rw [mt, if_pos c1], h.toExt⟩
  refine WL.nil ?_
  refine W.condF rfl ?_
  refine W.skip ?_
  refine W.seq (W.region rfl ?_)
  refine WL.p h Val.as ?_
  refine WL.nil ?_
  refine W.seq (W.block ?_)
  refine W.loop (mtI w0 F k) k.toNat ?_ (fun m R w hI => ?_)
  · exact ⟨⟨#[]⟩, h, by show Value.int .i64 k = _; congr 1; omega, rfl, Nat.le_of_eq (Nat.zero_add _), rfl⟩
  clear h
  obtain ⟨s, h, h0, h3, hsz, hmt⟩ := hI
  refine W.seq (W.seq (W.region rfl ?_))
  refine WL.p h Val.mv ?_
  refine WL.p h (Val.gt h0 rfl) ?_
  refine WL.dec (fun c2 => ?_) (fun c2 => ?_)
  · refine WL.nil ?_
    refine W.condT rfl ?_
    refine W.skip ?_
    refine W.block ?_
    have hmod : ((m : Int)).tmod 10 = ((m % 10 : Nat) : Int) := by rw [Int.tmod_eq_emod_of_nonneg (by omega)]; omega
    refine W.seq (W.region rfl ?_)
    refine WL.p h Val.mv ?_
    refine WL.p h (Val.rem h0 rfl (by decide)) ?_
    refine WL.p h (Val.addi (c := 48 + ((m % 10 : Nat) : Int)) rfl rfl (by rw [hmod]; omega)) ?_
    refine WL.p h (Val.cvI (k' := .u8) (a := 48 + ((m % 10 : Nat) : Int)) (by kernel_rfl) (by kernel_rfl) (by kernel_rfl) rfl) ?_
    refine WL.bs1 h Tryz.underlying111 T5 (by decide) (cs := [.int .u8 (digit m)]) rfl rfl (fun b w h => ?_)
    refine WL.p h (Val.cvB 0 (a := digit m) Tryz.underlying111 Tryz.underlying5 Tryz.underlying9 rfl rfl) ?_
    refine WL.p h Val.mv ?_
    refine WL.p h (Val.sAdd rfl h3 (by rw [son_size]; omega)) ?_
    refine WL.p h Val.as ?_
    refine WL.nil ?_
    refine W.region rfl ?_
    refine WL.p h Val.mv ?_
    refine WL.p h (Val.quoi (c := ((m / 10 : Nat) : Int)) h0 rfl (by decide) (by rw [Int.tdiv_eq_ediv_of_nonneg (by omega)]; omega)) ?_
    refine WL.p h Val.as ?_
    refine WL.nil ?_
    refine ⟨m / 10, by omega, strOfNums [digit m] ++ s, h.keep 0, rfl, rfl, ?_, ?_⟩
    · rw [ByteArray.size_append, son_size]; omega
    · rw [← hmt]
      conv => rhs; rw [mtD, if_neg (by omega)]
  · refine WL.nil ?_
    refine W.condF rfl ?_
    refine W.exit ?_
    have hm : m = 0 := by omega
    subst hm
    rw [mtD, if_pos rfl] at hmt
    refine W.seq (W.region rfl ?_)
    refine WL.p h Val.mv ?_
    refine WL.p h (Val.sAdd rfl h3 (by show 1 + s.size ≤ _; omega)) ?_
    refine WL.p h Val.as ?_
    refine WL.nil ?_
    refine W.ret ?_
    refine fin1 (v := .string (⟨#[109]⟩ ++ s)) rfl rfl ⟨?_, h.toExt⟩
    rw [mt, if_neg c1, hmt]

def mkA (k : Int) (i : Nat) : At := ⟨k + 4 * i, k + 4 * i + 1, mt (k + 4 * i + 2), k + 4 * i + 3⟩
def marks (k : Int) (n : Nat) : List At := (List.range n).map (mkA k)
theorem marks_len (k : Int) (n : Nat) : (marks k n).length = n := by simp [marks]
theorem marks_succ (k : Int) (n : Nat) : marks k (n + 1) = marks k n ++ [mkA k n] := by simp [marks, List.range_succ]
theorem marks_get {k : Int} {n i : Nat} (h : i < n) : (marks k n)[i]? = some (mkA k i) := by simp [marks, h]
theorem set4 (X Y : List Value) (a b c d : Value) (p : Nat) (hp : X.length = p) (hy : 4 ≤ Y.length) : ((((X ++ Y).set p a).set (p + 1) b).set (p + 2) c).set (p + 3) d = X ++ [a, b, c, d] ++ Y.drop 4 := by
  subst hp
  match Y, hy with
  | y0 :: y1 :: y2 :: y3 :: Y', _ =>
    rw [List.set_append_right _ _ (by omega), List.set_append_right _ _ (by omega), List.set_append_right _ _ (by omega), List.set_append_right _ _ (by omega)]
    simp
def mkC (k : Int) (n : Nat) (cs : List Value) : List Value := rowA (marks k n) ++ cs.drop (4 * n)
theorem mkC_step (k : Int) (n : Nat) (cs : List Value) (h : 4 * n + 4 ≤ cs.length) : ((((mkC k n cs).set (4 * n) (.int .i64 (k + 4 * n))).set (4 * n + 1) (.int .i64 (k + 4 * n + 1))).set (4 * n + 2) (.string (mt (k + 4 * n + 2)))).set (4 * n + 3) (.int .i64 (k + 4 * n + 3)) = mkC k (n + 1) cs := by
  rw [mkC, set4 _ _ _ _ _ _ (4 * n) (by rw [rowA_len, marks_len]; omega) (by simp; omega), mkC, marks_succ, rowA_app, List.drop_drop, show 4 * n + 4 = 4 * (n + 1) by omega]
  rfl
theorem mkC_len (k : Int) (n : Nat) (cs : List Value) (h : 4 * n ≤ cs.length) : (mkC k n cs).length = cs.length := by
  rw [mkC, List.length_append, rowA_len, marks_len, List.length_drop]; omega
def maI (w0 : World) (F0 F : Fz) (b n c : Nat) (cs : List Value) (k : Int) (m : Nat) (R : Regs) (w : World) : Prop :=
  ∃ (i : Nat), m + i = n ∧ Hp w0 F0 F [.box b (mkC k i cs) 78] w ∧ R 0 = .slice (some ⟨b, 0, none⟩) n c ∧ R 1 = .int .i64 (k + 4 * i) ∧ R 5 = .int .i64 (i : Int)
theorem markAtomS_calls {w0 w : World} {F0 F : Fz} {b n c : Nat} {cs : List Value} {k : Int} (h : Hp w0 F0 F [.box b cs 78] w) (hc : n ≤ c) (hl : 4 * n ≤ cs.length) (hk : 0 ≤ k ∧ k ≤ 1048576) (hn : n ≤ 1048576) :
    Calls Tryz.prog 31 #[.slice (some ⟨b, 0, none⟩) n c, .int .i64 k] w fun e w' => e = .returned (.int .i64 (k + 4 * n)) ∧ Hp w0 F0 F [.box b (mkC k n cs) 78] w' := by
  refine calls 42 Tryz.func31 rfl rfl rfl ?_
  refine W.seq (W.region rfl ?_)
  refine WL.p h Val.as ?_
  refine WL.nil ?_
  refine W.seq (W.seq (W.region rfl ?_))
  refine WL.p h Val.as ?_
  refine WL.nil ?_
  refine W.block ?_
  refine W.loop (maI w0 F0 F b n c cs k) n ?_ (fun m R w hI => ?_)
  · exact ⟨0, by omega, h.cast (by simp [mkC, marks, rowA]), rfl, by show Value.int .i64 k = _; simp, rfl⟩
  clear h
  obtain ⟨i, hm, h, h0, h1, h5⟩ := hI
  refine W.seq (W.seq (W.region rfl ?_))
  refine WL.p h Val.mv ?_
  refine WL.p h Val.mv ?_
  refine WL.p h (Val.len Tryz.underlying43 h0 ⟨_, _, rfl, hc⟩) ?_
  refine WL.p h (Val.lt h5 rfl) ?_
  refine WL.dec (fun c1 => ?_) (fun c1 => ?_)
  · have hlt : i < n := by omega
    have hcl := mkC_len k i cs (by omega)
    refine WL.nil ?_
    refine W.condT rfl ?_
    refine W.skip ?_
    refine W.seq (W.block ?_)
    refine W.seq (W.region rfl ?_)
    refine WL.p h Val.mv ?_
    refine WL.p h Val.mv ?_
    refine WL.p h Val.mv ?_
    refine WL.p h (Val.ix Tryz.underlying43 T79 h0 h5 ⟨_, rfl⟩ hlt) ?_
    refine WL.p h (Val.fa O79_0 rfl) ?_
    refine WL.st 0 (v := .int .i64 (k + 4 * i)) h rfl T3 rfl h1 rfl (by simp [soff]; omega) (fun w h => ?_)
    refine WL.nil ?_
    refine W.seq (W.region rfl ?_)
    refine WL.p h Val.mv ?_
    refine WL.p h (Val.addi (c := k + 4 * i + 1) h1 rfl (by omega)) ?_
    refine WL.p h Val.as ?_
    refine WL.nil ?_
    refine W.seq (W.region rfl ?_)
    refine WL.p h Val.mv ?_
    refine WL.p h Val.mv ?_
    refine WL.p h Val.mv ?_
    refine WL.p h (Val.ix Tryz.underlying43 T79 h0 h5 ⟨_, rfl⟩ hlt) ?_
    refine WL.p h (Val.fa O79_1 rfl) ?_
    refine WL.st 0 (v := .int .i64 (k + 4 * i + 1)) h rfl T2 rfl rfl rfl (by simp [soff]; omega) (fun w h => ?_)
    refine WL.nil ?_
    refine W.seq (W.region rfl ?_)
    refine WL.p h Val.mv ?_
    refine WL.p h (Val.addi (c := k + 4 * i + 2) rfl rfl (by omega)) ?_
    refine WL.p h Val.as ?_
    refine WL.nil ?_
    refine W.seq (W.region rfl ?_)
    refine WL.p h Val.mv ?_
    refine WL.p h Val.mv ?_
    refine WL.p h Val.mv ?_
    refine WL.call C79 (args := [.int .i64 (k + 4 * i + 2)]) rfl ((markText_calls F w h.sub (k + 4 * i + 2) (by omega)).mono ?_)
    rintro e w' ⟨rfl, hE⟩
    have h := h.call hE
    refine ⟨_, rfl, ?_⟩
    refine WL.p h (Val.ix Tryz.underlying43 T79 h0 h5 ⟨_, rfl⟩ hlt) ?_
    refine WL.p h (Val.fa O79_2 rfl) ?_
    refine WL.st 0 (v := .string (mt (k + 4 * i + 2))) h rfl T9 rfl rfl rfl (by simp [soff]; omega) (fun w h => ?_)
    refine WL.nil ?_
    refine W.seq (W.region rfl ?_)
    refine WL.p h Val.mv ?_
    refine WL.p h (Val.addi (c := k + 4 * i + 3) rfl rfl (by omega)) ?_
    refine WL.p h Val.as ?_
    refine WL.nil ?_
    refine W.seq (W.region rfl ?_)
    refine WL.p h Val.mv ?_
    refine WL.p h Val.mv ?_
    refine WL.p h Val.mv ?_
    refine WL.p h (Val.ix Tryz.underlying43 T79 h0 h5 ⟨_, rfl⟩ hlt) ?_
    refine WL.p h (Val.fa O79_3 rfl) ?_
    refine WL.st 0 (v := .int .i64 (k + 4 * i + 3)) h rfl T3 rfl rfl rfl (by simp [soff]; omega) (fun w h => ?_)
    refine WL.nil ?_
    refine W.region rfl ?_
    refine WL.p h Val.mv ?_
    refine WL.p h (Val.addi (c := k + 4 * i + 4) rfl rfl (by omega)) ?_
    refine WL.p h Val.as ?_
    refine WL.nil ?_
    refine W.region rfl ?_
    refine WL.p h Val.mv ?_
    refine WL.p h (Val.addi (c := ((i + 1 : Nat) : Int)) h5 rfl (by omega)) ?_
    refine WL.p h Val.as ?_
    refine WL.nil ?_
    refine ⟨m - 1, by omega, i + 1, by omega, h.cast ?_, h0, by show Value.int .i64 (k + 4 * i + 4) = _; congr 1; omega, rfl⟩
    have := mkC_step k i cs (by omega)
    simp only [soff, Nat.zero_add, Nat.add_zero, List.set_cons_zero, Nat.mul_comm i 4]
    rw [this]
  · have hi : i = n := by omega
    subst hi
    refine WL.nil ?_
    refine W.condF rfl ?_
    refine W.exit ?_
    refine W.seq (W.region rfl ?_)
    refine WL.p h Val.mv ?_
    refine WL.p h Val.as ?_
    refine WL.nil ?_
    refine W.ret ?_
    exact fin1 rfl h1 ⟨rfl, h⟩
def heI (w0 : World) (F : Fz) (v : Value) (n : Nat) (k : Int) (m : Nat) (R : Regs) (w : World) : Prop :=
  ∃ (i : Nat), m + i = n ∧ Hp w0 F F [] w ∧ R 0 = v ∧ R 1 = .int .i64 (k + 4 * i) ∧ R 5 = .int .i64 (i : Int)
end Go.Proofs.YtmiihhbgfijcmaaGreat.K



/- Un: the reference's and the program's, walked. -/
namespace Go.Proofs.YtmiihhbgfijcmaaGreat.K
open Go Go.RowKit
set_option linter.unusedVariables false
set_option linter.unusedSimpArgs false
set_option maxRecDepth 20000
theorem C46 : CF Tryz.prog 36 := ⟨_, Tryz.func36, rfl, rfl⟩
theorem B42e : Tryz.prog.built 45 [] = some #[.slice none 0 0] := by kernel_rfl
def wType : ByteArray := ⟨#[116, 121, 112, 101]⟩
def wRange : ByteArray := ⟨#[114, 97, 110, 103, 101]⟩
def negI (n : Int) : Int := IntKind.i64.wrap (-n)
def unA (op : Int) (a : At) : List At × ByteArray :=
  if op = 1 ∧ a.k = 2 then ([⟨2, if a.n = 0 then 1 else 0, ⟨#[]⟩, 0⟩], ⟨#[]⟩)
  else if op = 2 ∧ a.k = 3 then (if a.n = -9223372036854775808 then ([], wRange) else ([⟨3, negI a.n, ⟨#[]⟩, 0⟩], ⟨#[]⟩))
  else ([], wType)
def unP (op : Int) (es : List At) : List At × ByteArray := match treeP es with
  | none => ([], wType)
  | some t => unA op t.atom
theorem nilF (F : Fz) (size : Nat) : FRow F (.slice none 0 0) 0 size [] := ⟨by simp, by omega, ⟨none, 0, rfl, Nat.le_refl _⟩, .inl rfl⟩
/-- What a call that hands back one value of new atoms tells. -/
def PS (F : Fz) (w0 : World) (l : List At) (e : Ending) (w : World) : Prop := ∃ F' s, e = .returned (.agg #[s]) ∧ Ext F w0 F' w ∧ FRow F' s l.length 4 (rowA l)
def PSW (F : Fz) (w0 : World) (l : List At × ByteArray) (e : Ending) (w : World) : Prop := ∃ F' s, e = .returned (.tuple #[.agg #[s], .string l.2]) ∧ Ext F w0 F' w ∧ FRow F' s l.1.length 4 (rowA l.1)
theorem FRow.one {F : Fz} {v : Value} {n size : Nat} {xs : List Value} (h : FRow F v n size xs) : v.oneCell' = true := by obtain ⟨A, c, rfl, _⟩ := h.val; rfl
theorem one1 {s : Value} (h : s.oneCell' = true) : ∀ v ∈ [s], v.oneCell' = true := by simpa using h
theorem l6Kind_calls (F : Fz) (w0 : World) (hF : Sub F (hv w0)) (v : Value) (es : List At) (hr : FRow F v es.length 4 (rowA es)) (a : At) (ha : es[es.length - 1]? = some a) : Calls Tryz.prog 36 #[.agg #[v]] w0 (PI F w0 a.k) := by
  refine calls 6 Tryz.func36 rfl rfl rfl ?_
  have h := Hp.start hF
  refine W.seq (W.region rfl ?_)
  refine WL.box h rfl (fun b1 w h => ?_)
  refine WL.p h Val.as ?_
  refine WL.nil ?_
  refine W.seq (W.region rfl ?_)
  refine WL.p h (Val.ldS 0 A42 T42 rfl rfl rfl) ?_
  refine WL.call C48 (args := [.agg #[v]]) rfl ((l5Last_calls F w h.sub v es hr a ha).mono ?_)
  rintro e w' ⟨rfl, hE⟩
  have h := h.call hE
  refine ⟨_, rfl, ?_⟩
  refine WL.p h (Val.fld E79_0 rfl rfl) ?_
  refine WL.p h Val.as ?_
  refine WL.nil ?_
  refine W.ret ?_
  exact fin1 (v := .int .i64 a.k) rfl rfl (PI.mk h.toExt)
theorem PSW.no {F w0 w} {F' : Fz} {l : List At × ByteArray} {s : ByteArray} (hE : Ext F w0 F' w) (h : l = ([], s)) : PSW F w0 l (.returned (.tuple #[.agg #[.slice none 0 0], .string s])) w := ⟨F', _, by rw [h], hE, by rw [h]; exact nilF _ _⟩
end Go.Proofs.YtmiihhbgfijcmaaGreat.K



/- Un: the program's, walked. -/
namespace Go.Proofs.YtmiihhbgfijcmaaGreat.K
open Go Go.RowKit
set_option linter.unusedVariables false
set_option linter.unusedSimpArgs false
set_option maxRecDepth 20000
def unV (op : Int) : V → V × ByteArray
  | .bool b => if op = 1 then (.bool !b, ⟨#[]⟩) else (.none, wType)
  | .int n => if op = 2 then (if n = -9223372036854775808 then (.none, wRange) else (.int (negI n), ⟨#[]⟩)) else (.none, wType)
  | _ => (.none, wType)
def PVW (F : Fz) (w0 : World) (p : V × ByteArray) (e : Ending) (w : World) : Prop := ∃ F' r, e = .returned (.tuple #[r, .string p.2]) ∧ Ext F w0 F' w ∧ Rep F' p.1 r
theorem PVW.mk {F w0 w} {F' : Fz} {p : V × ByteArray} {r : Value} {s : ByteArray} (hE : Ext F w0 F' w) (h2 : s = p.2) (h1 : Rep F' p.1 r) : PVW F w0 p (.returned (.tuple #[r, .string s])) w := ⟨F', r, by rw [h2], hE, h1⟩
/-- What a call that hands back one value in memory of its own tells. -/
def PO (F : Fz) (w0 : World) (l : List At × ByteArray) (e : Ending) (w : World) : Prop := ∃ s, e = .returned (.tuple #[.agg #[s], .string l.2]) ∧ Hp w0 F F [.own s 78 4 l.1.length (rowA l.1)] w
theorem Hp.only {w0 w : World} {F0 F : Fz} {L : List Ch} (h : Hp w0 F0 F L w) (i : Nat) {c : Ch} (hi : L[i]? = some c) : Hp w0 F0 F [c] w :=
  h.reorder (fun _ => i) (fun a b ha hb _ => by simp at ha hb; omega) (fun j e he => by
    cases j with
    | zero => simp at he; subst he; exact hi
    | succ j => simp at he)
theorem Hp.take1 {w0 w w' : World} {F0 F F1 : Fz} {L : List Ch} {c : Ch} (h : Hp w0 F0 F L w) (hp : Hp w F1 F1 [c] w') : Hp w0 F0 F (L ++ [c]) w' :=
  h.gain c hp.below (hp.holds 0 _ rfl) (fun b hb => (hp.fresh 0 _ b rfl hb).1)
def outA (p : V × ByteArray) : List At × ByteArray := if p.2 = ⟨#[]⟩ then (packV p.1, ⟨#[]⟩) else ([], p.2)
theorem un_out (op : Int) {a : At} {ks : List T} {k : List It} {v : V} (h : Inner a ks k v) : outA (unV op v) = unA op a ∧ (packV (unV op v).1).length ≤ 1 := by
  have hw : wType ≠ (⟨#[]⟩ : ByteArray) := by intro e; exact absurd (congrArg ByteArray.size e) (by decide)
  have hw2 : wRange ≠ (⟨#[]⟩ : ByteArray) := by intro e; exact absurd (congrArg ByteArray.size e) (by decide)
  cases h with
  | none h hk => simp [unV, outA, hw, packV, unA, h]
  | bool h hk hn =>
    by_cases p1 : op = 1
    · rcases hn with hn | hn <;> simp [unV, outA, packV, unA, h, p1, hn]
    · simp [unV, outA, hw, packV, unA, h, p1]
  | int h hk =>
    by_cases p1 : op = 2
    · by_cases p2 : a.n = -9223372036854775808
      · simp [unV, outA, hw2, packV, unA, h, p1, p2]
      · simp [unV, outA, packV, unA, h, p1, p2]
    · simp [unV, outA, hw, packV, unA, h, p1]
  | text h hk hs => simp [unV, outA, hw, packV, unA, h]
  | list h hl => simp [unV, outA, hw, packV, unA, h]
  | record h ns vs q hl hq hn hv ht hr => simp [unV, outA, hw, packV, unA, h]
end Go.Proofs.YtmiihhbgfijcmaaGreat.K



/- The calculus, eighth part: results told as chunks; one chunk worked on wherever it stands; literals of any number of one-cell elements; bits; pieces of strings. -/
namespace Go.Proofs.YtmiihhbgfijcmaaGreat.K
open Go Go.RowKit
set_option linter.unusedVariables false
set_option linter.unusedSimpArgs false
section
variable {P : Program} {R : Regs} {w0 : World} {F0 F : Fz} {L : List Ch} {d : Option Nat} {ty : TypeId} {pos : String} {af : Array Edge} {g : Option (Nat × Bool)}
variable {n : Nat} {ops : Array Oper} {Q : Post} {w : World} {rest : List Oper}
theorem Val.nilc {x : Operand} {a : Addr} (hx : ev R x = .pointer (some a)) : Val P (Hp w0 F0 F L) R ⟨d, .nilCheck x, ty, pos, af, g⟩ (.pointer (some a)) := fun w _ => by
  simp [execOp, hx]
theorem xor_i64 (a b : Nat) (ha : a < 4611686018427387904) (hb : b < 4611686018427387904) (w : World) (t : TypeId) : (binOp .xor t (.int .i64 (a : Int)) (.int .i64 (b : Int))).run P w = .ok (.int .i64 ((a ^^^ b : Nat) : Int)) w ∧ a ^^^ b < 4611686018427387904 := by
  have hx : a ^^^ b < 2 ^ 62 := Nat.xor_lt_two_pow (by omega) (by omega)
  have h1 : (BitVec.ofInt 64 (a : Int)).toNat = a := by
    rw [BitVec.ofInt_natCast, BitVec.toNat_ofNat]; exact Nat.mod_eq_of_lt (by omega)
  have h2 : (BitVec.ofInt 64 (b : Int)).toNat = b := by
    rw [BitVec.ofInt_natCast, BitVec.toNat_ofNat]; exact Nat.mod_eq_of_lt (by omega)
  refine ⟨?_, hx⟩
  have hb : binOp .xor t (.int .i64 (a : Int)) (.int .i64 (b : Int)) = pure (.int .i64 (IntKind.i64.wrap ((BitVec.ofInt 64 (a : Int) ^^^ BitVec.ofInt 64 (b : Int)).toNat : Int))) := rfl
  rw [hb, BitVec.toNat_xor, h1, h2, wrap_in (by omega)]
  rfl
theorem Val.xorN {t t' : TypeId} {x y : Operand} {a b : Nat} (hx : ev R x = .int .i64 (a : Int)) (hy : ev R y = .int .i64 (b : Int)) (ha : a < 4611686018427387904) (hb : b < 4611686018427387904) : Val P (Hp w0 F0 F L) R ⟨d, .binOp .xor t x y t', ty, pos, af, g⟩ (.int .i64 ((a ^^^ b : Nat) : Int)) := Val.bin hx hy fun w => (xor_i64 a b ha hb w t).1
theorem Val.slStrFrom {T lo : Nat} {x y : Operand} {s : ByteArray} (ht : P.underlying T = some .string) (hx : ev R x = .string s) (hy : ev R y = .int .i64 (lo : Int)) (h1 : lo ≤ s.size) :
    Val P (Hp w0 F0 F L) R ⟨d, .slice T x (some y) none none, ty, pos, af, g⟩ (.string (s.extract lo s.size)) := fun w _ => by
  have h1' : (lo : Int) ≤ (s.size : Int) := by omega
  simp [execOp, Instr.sliceAt, Instr.slice, Instr.sliceBounds, Instr.sliceBound, asIntOf, run_underlying ht, hx, hy, h1', h1]
theorem Val.slStrTo {T hi : Nat} {x y : Operand} {s : ByteArray} (ht : P.underlying T = some .string) (hx : ev R x = .string s) (hy : ev R y = .int .i64 (hi : Int)) (h1 : hi ≤ s.size) :
    Val P (Hp w0 F0 F L) R ⟨d, .slice T x none (some y) none, ty, pos, af, g⟩ (.string (s.extract 0 hi)) := fun w _ => by
  have h1' : (hi : Int) ≤ (s.size : Int) := by omega
  simp [execOp, Instr.sliceAt, Instr.slice, Instr.sliceBounds, Instr.sliceBound, asIntOf, run_underlying ht, hx, hy, h1', h1]
theorem fill_one : ∀ (vs : List Value) (i : Nat) (c : Array Value), i + vs.length = c.size → (∀ v ∈ vs, v.oneCell' = true) → Instr.fill (fun i => some (i * 1, 1)) c ((vs.zipIdx i).map fun p => (p.2, p.1)) = some (c.toList.take i ++ vs).toArray
  | [], i, c, hi, _ => by
    simp only [List.zipIdx_nil, List.map_nil, Instr.fill, Option.some.injEq, List.append_nil]
    apply Array.ext'
    rw [List.take_of_length_le (by simp at hi ⊢; omega)]
  | v :: vs, i, c, hi, h1 => by
    simp only [List.length_cons] at hi
    have hv := cells1 (h1 v (by simp))
    simp only [List.zipIdx_cons, List.map_cons, Instr.fill, hv, Nat.mul_one]
    rw [if_neg (by simp; omega)]
    have e : (#[v].zipIdx.foldl (fun (cs : Array Value) (x : Value × Nat) => cs.setIfInBounds (i + x.2) x.1) c) = c.setIfInBounds i v := by
      have : #[v].zipIdx = #[(v, 0)] := by rfl
      rw [this]; simp
    have e' : Array.foldl (fun (cs : Array Value) (x : Value × Nat) => match x with | (c, j) => cs.setIfInBounds (i + j) c) c #[v].zipIdx = c.setIfInBounds i v := e
    rw [e']
    have ih := fill_one vs (i + 1) (c.setIfInBounds i v) (by simp; omega) (fun u hu => h1 u (by simp [hu]))
    simp only [Nat.mul_one] at ih
    rw [ih]
    congr 2
    have hlt : i < c.toList.length := by simp; omega
    rw [Array.toList_setIfInBounds, List.take_set, List.take_succ_eq_append_getElem hlt, List.set_append_right _ _ (by simp; omega)]
    simp [Nat.min_eq_left (show i ≤ c.size by omega)]
/-- A composite literal of one-cell elements, each given. -/
theorem WL.bsN {T e bytes k : Nat} {z : Value} {elems : Array (Nat × Operand)} {vs : List Value} (h : Hp w0 F0 F L w) (ht : P.underlying T = some (.slice e)) (hT : TI P e z 1 bytes) (he : elems.toList.map (fun p => (p.1, ev R p.2)) = (vs.zipIdx 0).map fun p => (p.2, p.1)) (hl : vs.length = k) (hk : 0 < k ∧ k ≤ 1000) (h1 : ∀ v ∈ vs, v.oneCell' = true)
    (kk : ∀ b w', Hp w0 F0 F (L ++ [.box b vs e]) w' → WL P n ops Q rest (updO R d (.slice (some ⟨b, 0, none⟩) k k)) w') (hw : wantB ops R g = true := by rfl) : WL P n ops Q (⟨d, .buildSlice T k elems, ty, pos, af, g⟩ :: rest) R w := by
  refine WL.val (v := .slice (some ⟨w.heap.size, 0, none⟩) k k) (w' := w.alloc (.cells vs.toArray e)) hw ?_ (kk _ _ (h.alloc vs e))
  have h24 : ¬ (k * 1 > 2 ^ 24) := by omega
  have h0 : ¬ (k * 1 = 0) := by omega
  have hf := fill_one vs 0 ((Array.range (k * 1)).map (fun i => z.cells[i % z.cells.size]!)) (by simp [hl]) h1
  rw [List.take_zero, List.nil_append] at hf
  have hel : (elems.map fun p => (p.1, ev R p.2)).toList = (vs.zipIdx 0).map fun p => (p.2, p.1) := by rw [Array.toList_map]; exact he
  simp only [execOp, Instr.buildSlice, Sem.run_bind, run_underlying ht, Result.andThen_ok, hT.sizeOf w, if_neg h24, if_neg h0, hT.zero w, Sem.run_pure]
  have hel' : (Array.map (fun (x : Nat × Operand) => match x with | (i, y) => (i, ev R y)) elems).toList = (vs.zipIdx 0).map fun p => (p.2, p.1) := hel
  rw [hel', hf]
  rfl

/-! ### Results told as chunks -/
def Held (c : Ch) (s : Value) (n size : Nat) (xs : List Value) : Prop := ∀ (G : Fz) w, c.holds w → (∀ b, c.blk = some b → G b = w.heap[b]?) → FRow G s n size xs
theorem held_own {s : Value} {T n size : Nat} {xs : List Value} : Held (.own s T size n xs) s n size xs := fun G w hw hb => own_row hw hb
theorem held_box {b T n size : Nat} {xs : List Value} (hl : xs.length = n * size) (hm : n ≤ 9223372036854775807) : Held (.box b xs T) (.slice (some ⟨b, 0, none⟩) n n) n size xs := fun G w hw hb =>
  box_row (by rw [hb b rfl]; exact hw) hl hm
theorem Hp.freezeHeld (h : Hp w0 F0 F L w) (i : Nat) {c : Ch} {s : Value} {n size : Nat} {xs : List Value} (hi : L[i]? = some c) (hh : Held c s n size xs) : ∃ F', Sub F F' ∧ Hp w0 F0 F' (L.set i .dead) w ∧ FRow F' s n size xs := by
  obtain ⟨F', h1, h2, h3⟩ := h.freeze i hi
  exact ⟨F', h1, h2, hh F' w (h.holds i _ hi) h3⟩
theorem Hp.rowHeld (h : Hp w0 F0 F L w) (i : Nat) {c : Ch} {s : Value} {n size : Nat} {xs : List Value} (hi : L[i]? = some c) (hh : Held c s n size xs) : FRow (hv w) s n size xs := hh _ w (h.holds i _ hi) fun _ _ => rfl
/-- One chunk is worked on by a callee that hands back a row of its own besides. -/
theorem Hp.lend2 (h : Hp w0 F0 F L w) (i : Nat) {c : Ch} (hi : L[i]? = some c) : ∃ F1, Sub F F1 ∧ Hp w0 F0 F1 [c] w ∧ ∀ w' c' e, Hp w0 F0 F1 [c', e] w' → Hp w0 F0 F (L.set i c' ++ [e]) w' := by
  have hlt := (List.getElem?_eq_some_iff.1 hi).1
  have h1 : Hp w0 F0 F ([c] ++ L.set i .dead) w := by
    have hk := h.kill i
    refine ⟨h.below, h.ext, h.new, h.sub, ?_, ?_, ?_⟩
    · intro j e he
      cases j with
      | zero => simp at he; subst he; exact h.holds i _ hi
      | succ j => exact hk.holds j e (by simpa using he)
    · intro j e b he hb
      cases j with
      | zero => simp at he; subst he; exact h.fresh i _ b hi hb
      | succ j => exact hk.fresh j e b (by simpa using he) hb
    · have key : ∀ (j : Nat) e b, (L.set i .dead)[j]? = some e → e.blk = some b → c.blk ≠ some b := fun j e b he hb hcb => by
        by_cases hij : i = j
        · subst hij
          rw [List.getElem?_set_self hlt] at he
          cases he
          simp [Ch.blk] at hb
        · rw [List.getElem?_set_ne hij] at he
          exact h.disj i j c e b hij hi he hcb hb
      intro j k d e b hjk hd he hb
      cases j with
      | zero =>
        cases k with
        | zero => exact absurd rfl hjk
        | succ k =>
          simp at hd; subst hd
          intro heb
          exact key k e b (by simpa using he) heb hb
      | succ j =>
        cases k with
        | zero =>
          simp at he; subst he
          exact key j d b (by simpa using hd) hb
        | succ k => exact hk.disj j k d e b (by omega) (by simpa using hd) (by simpa using he) hb
  obtain ⟨F1, hs, h2, h3⟩ := h1.lend
  refine ⟨F1, hs, h2, fun w' c' e h' => ?_⟩
  have h4 := h3 w' [c', e] h'
  refine h4.reorder (fun j => if j = i then 0 else if j = L.length then 1 else j + 2) ?_ ?_
  · intro a b ha hb e'
    split at e' <;> split at e' <;> (try split at e') <;> (try split at e') <;> omega
  · intro j x hx
    by_cases hij : j = i
    · subst hij
      rw [List.getElem?_append_left (by simpa using hlt), List.getElem?_set_self hlt] at hx
      cases hx
      simp
    · rw [if_neg hij]
      by_cases hj : j = L.length
      · subst hj
        rw [List.getElem?_append_right (by simp), List.length_set, Nat.sub_self] at hx
        simp at hx
        subst hx
        simp
      · rw [if_neg hj]
        have hjl : j < L.length := by
          have := (List.getElem?_eq_some_iff.1 hx).1
          simp at this; omega
        rw [List.getElem?_append_left (by simpa using hjl), List.getElem?_set_ne (fun e => hij e.symm)] at hx
        simp only [List.cons_append, List.nil_append, List.getElem?_cons_succ]
        rw [List.getElem?_set_ne (fun e => hij e.symm)]
        exact hx
end
end Go.Proofs.YtmiihhbgfijcmaaGreat.K


