/- The laws' marks: a value's memory is overwritten, and read back. -/
import Derived.Test.YtmiihhbgfijcmaaPk
namespace Go.Proofs.Ytmiihhbgfijcmaa.K
open Go Go.RowKit
set_option linter.unusedVariables false
set_option linter.unusedSimpArgs false
set_option maxRecDepth 20000
theorem C79 : CF Try.prog 79 := ⟨_, Try.func79, rfl, rfl⟩
theorem C53 : CF Try.prog 53 := ⟨_, Try.func53, rfl, rfl⟩
theorem C24 : CF Try.prog 24 := ⟨_, Try.func24, rfl, rfl⟩
theorem C54 : CF Try.prog 54 := ⟨_, Try.func54, rfl, rfl⟩
theorem C25 : CF Try.prog 25 := ⟨_, Try.func25, rfl, rfl⟩
def digit (n : Nat) : Int := IntKind.u8.wrap (48 + ((n % 10 : Nat) : Int))
def mtD (n : Nat) (s : ByteArray) : ByteArray := if n = 0 then s else mtD (n / 10) (strOfNums [digit n] ++ s)
termination_by n
decreasing_by omega
def mt (k : Int) : ByteArray := if k ≤ 0 then ⟨#[109, 48]⟩ else ⟨#[109]⟩ ++ mtD k.toNat ⟨#[]⟩
theorem son_size (a : Int) : (strOfNums [a]).size = 1 := by simp [strOfNums]; rfl
def mtI (w0 : World) (F : Fz) (k : Int) (m : Nat) (R : Regs) (w : World) : Prop :=
  ∃ (s : ByteArray), Hp w0 F F [] w ∧ R 0 = .int .i64 (m : Int) ∧ R 3 = .string s ∧ s.size + m ≤ k.toNat ∧ mtD m s = mtD k.toNat ⟨#[]⟩
theorem markText_calls (F : Fz) (w0 : World) (hF : Sub F (hv w0)) (k : Int) (hk : k ≤ 1073741824) : Calls Try.prog 79 #[.int .i64 k] w0 fun e w' => e = .returned (.string (mt k)) ∧ Ext F w0 F w' := by
  refine calls 20 Try.func79 rfl rfl rfl ?_
  have h := Hp.start hF
  refine W.seq (W.region rfl ?_)
  refine WL.p h Val.as ?_
  refine WL.nil ?_
  refine W.seq (W.seq (W.region rfl ?_))
  refine WL.p h Val.mv ?_
  refine WL.p h (Val.le rfl rfl) ?_
  refine WL.dec (fun c1 => ?_) (fun c1 => ?_)
  · refine WL.nil ?_
    refine W.condT rfl ?_
    refine W.seq (W.region rfl ?_)
    refine WL.p h Val.as ?_
    refine WL.nil ?_
    refine W.ret ?_
    exact fin1 (v := .string ⟨#[109, 48]⟩) rfl rfl ⟨by rw [mt, if_pos c1], h.toExt⟩
  refine WL.nil ?_
  refine W.condF rfl ?_
  refine W.skip ?_
  refine W.seq (W.region rfl ?_)
  refine WL.p h Val.as ?_
  refine WL.nil ?_
  refine W.seq (W.block ?_)
  refine W.loop (mtI w0 F k) k.toNat ?_ (fun m R w hI => ?_)
  · exact ⟨⟨#[]⟩, h, by show Value.int .i64 k = _; congr 1; omega, rfl, Nat.le_of_eq (Nat.zero_add _), rfl⟩
  clear h
  obtain ⟨s, h, h0, h3, hsz, hmt⟩ := hI
  refine W.seq (W.seq (W.region rfl ?_))
  refine WL.p h Val.mv ?_
  refine WL.p h (Val.gt h0 rfl) ?_
  refine WL.dec (fun c2 => ?_) (fun c2 => ?_)
  · refine WL.nil ?_
    refine W.condT rfl ?_
    refine W.skip ?_
    refine W.block ?_
    have hmod : ((m : Int)).tmod 10 = ((m % 10 : Nat) : Int) := by rw [Int.tmod_eq_emod_of_nonneg (by omega)]; omega
    refine W.seq (W.region rfl ?_)
    refine WL.p h Val.mv ?_
    refine WL.p h (Val.rem h0 rfl (by decide)) ?_
    refine WL.p h (Val.addi (c := 48 + ((m % 10 : Nat) : Int)) rfl rfl (by rw [hmod]; omega)) ?_
    refine WL.p h (Val.cvI (k' := .u8) (a := 48 + ((m % 10 : Nat) : Int)) (by kernel_rfl) (by kernel_rfl) (by kernel_rfl) rfl) ?_
    refine WL.bs1 h Try.underlying52 T5 (by decide) (cs := [.int .u8 (digit m)]) rfl rfl (fun b w h => ?_)
    refine WL.p h (Val.cvB 0 (a := digit m) Try.underlying52 Try.underlying5 Try.underlying9 rfl rfl) ?_
    refine WL.p h Val.mv ?_
    refine WL.p h (Val.sAdd rfl h3 (by rw [son_size]; omega)) ?_
    refine WL.p h Val.as ?_
    refine WL.nil ?_
    refine W.region rfl ?_
    refine WL.p h Val.mv ?_
    refine WL.p h (Val.quoi (c := ((m / 10 : Nat) : Int)) h0 rfl (by decide) (by rw [Int.tdiv_eq_ediv_of_nonneg (by omega)]; omega)) ?_
    refine WL.p h Val.as ?_
    refine WL.nil ?_
    refine ⟨m / 10, by omega, strOfNums [digit m] ++ s, h.keep 0, rfl, rfl, ?_, ?_⟩
    · rw [ByteArray.size_append, son_size]; omega
    · rw [← hmt]
      conv => rhs; rw [mtD, if_neg (by omega)]
  · refine WL.nil ?_
    refine W.condF rfl ?_
    refine W.exit ?_
    have hm : m = 0 := by omega
    subst hm
    rw [mtD, if_pos rfl] at hmt
    refine W.seq (W.region rfl ?_)
    refine WL.p h Val.mv ?_
    refine WL.p h (Val.sAdd rfl h3 (by show 1 + s.size ≤ _; omega)) ?_
    refine WL.p h Val.as ?_
    refine WL.nil ?_
    refine W.ret ?_
    refine fin1 (v := .string (⟨#[109]⟩ ++ s)) rfl rfl ⟨?_, h.toExt⟩
    rw [mt, if_neg c1, hmt]

def mkA (k : Int) (i : Nat) : At := ⟨k + 4 * i, k + 4 * i + 1, mt (k + 4 * i + 2), k + 4 * i + 3⟩
def marks (k : Int) (n : Nat) : List At := (List.range n).map (mkA k)
theorem marks_len (k : Int) (n : Nat) : (marks k n).length = n := by simp [marks]
theorem marks_succ (k : Int) (n : Nat) : marks k (n + 1) = marks k n ++ [mkA k n] := by simp [marks, List.range_succ]
theorem marks_get {k : Int} {n i : Nat} (h : i < n) : (marks k n)[i]? = some (mkA k i) := by simp [marks, h]
theorem set4 (X Y : List Value) (a b c d : Value) (p : Nat) (hp : X.length = p) (hy : 4 ≤ Y.length) : ((((X ++ Y).set p a).set (p + 1) b).set (p + 2) c).set (p + 3) d = X ++ [a, b, c, d] ++ Y.drop 4 := by
  subst hp
  match Y, hy with
  | y0 :: y1 :: y2 :: y3 :: Y', _ =>
    rw [List.set_append_right _ _ (by omega), List.set_append_right _ _ (by omega), List.set_append_right _ _ (by omega), List.set_append_right _ _ (by omega)]
    simp
def mkC (k : Int) (n : Nat) (cs : List Value) : List Value := rowA (marks k n) ++ cs.drop (4 * n)
theorem mkC_step (k : Int) (n : Nat) (cs : List Value) (h : 4 * n + 4 ≤ cs.length) : ((((mkC k n cs).set (4 * n) (.int .i64 (k + 4 * n))).set (4 * n + 1) (.int .i64 (k + 4 * n + 1))).set (4 * n + 2) (.string (mt (k + 4 * n + 2)))).set (4 * n + 3) (.int .i64 (k + 4 * n + 3)) = mkC k (n + 1) cs := by
  rw [mkC, set4 _ _ _ _ _ _ (4 * n) (by rw [rowA_len, marks_len]; omega) (by simp; omega), mkC, marks_succ, rowA_app, List.drop_drop, show 4 * n + 4 = 4 * (n + 1) by omega]
  rfl
theorem mkC_len (k : Int) (n : Nat) (cs : List Value) (h : 4 * n ≤ cs.length) : (mkC k n cs).length = cs.length := by
  rw [mkC, List.length_append, rowA_len, marks_len, List.length_drop]; omega
def maI (w0 : World) (F0 F : Fz) (b n c : Nat) (cs : List Value) (k : Int) (m : Nat) (R : Regs) (w : World) : Prop :=
  ∃ (i : Nat), m + i = n ∧ Hp w0 F0 F [.box b (mkC k i cs) 79] w ∧ R 0 = .slice (some ⟨b, 0, none⟩) n c ∧ R 1 = .int .i64 (k + 4 * i) ∧ R 5 = .int .i64 (i : Int)
theorem markAtomS_calls {w0 w : World} {F0 F : Fz} {b n c : Nat} {cs : List Value} {k : Int} (h : Hp w0 F0 F [.box b cs 79] w) (hc : n ≤ c) (hl : 4 * n ≤ cs.length) (hk : 0 ≤ k ∧ k ≤ 1048576) (hn : n ≤ 1048576) :
    Calls Try.prog 53 #[.slice (some ⟨b, 0, none⟩) n c, .int .i64 k] w fun e w' => e = .returned (.int .i64 (k + 4 * n)) ∧ Hp w0 F0 F [.box b (mkC k n cs) 79] w' := by
  refine calls 42 Try.func53 rfl rfl rfl ?_
  refine W.seq (W.region rfl ?_)
  refine WL.p h Val.as ?_
  refine WL.nil ?_
  refine W.seq (W.seq (W.region rfl ?_))
  refine WL.p h Val.as ?_
  refine WL.nil ?_
  refine W.block ?_
  refine W.loop (maI w0 F0 F b n c cs k) n ?_ (fun m R w hI => ?_)
  · exact ⟨0, by omega, h.cast (by simp [mkC, marks, rowA]), rfl, by show Value.int .i64 k = _; simp, rfl⟩
  clear h
  obtain ⟨i, hm, h, h0, h1, h5⟩ := hI
  refine W.seq (W.seq (W.region rfl ?_))
  refine WL.p h Val.mv ?_
  refine WL.p h Val.mv ?_
  refine WL.p h (Val.len Try.underlying40 h0 ⟨_, _, rfl, hc⟩) ?_
  refine WL.p h (Val.lt h5 rfl) ?_
  refine WL.dec (fun c1 => ?_) (fun c1 => ?_)
  · have hlt : i < n := by omega
    have hcl := mkC_len k i cs (by omega)
    refine WL.nil ?_
    refine W.condT rfl ?_
    refine W.skip ?_
    refine W.seq (W.block ?_)
    refine W.seq (W.region rfl ?_)
    refine WL.p h Val.mv ?_
    refine WL.p h Val.mv ?_
    refine WL.p h Val.mv ?_
    refine WL.p h (Val.ix Try.underlying40 T79 h0 h5 ⟨_, rfl⟩ hlt) ?_
    refine WL.p h (Val.fa O79_0 rfl) ?_
    refine WL.st 0 (v := .int .i64 (k + 4 * i)) h rfl T3 rfl h1 rfl (by simp [soff]; omega) (fun w h => ?_)
    refine WL.nil ?_
    refine W.seq (W.region rfl ?_)
    refine WL.p h Val.mv ?_
    refine WL.p h (Val.addi (c := k + 4 * i + 1) h1 rfl (by omega)) ?_
    refine WL.p h Val.as ?_
    refine WL.nil ?_
    refine W.seq (W.region rfl ?_)
    refine WL.p h Val.mv ?_
    refine WL.p h Val.mv ?_
    refine WL.p h Val.mv ?_
    refine WL.p h (Val.ix Try.underlying40 T79 h0 h5 ⟨_, rfl⟩ hlt) ?_
    refine WL.p h (Val.fa O79_1 rfl) ?_
    refine WL.st 0 (v := .int .i64 (k + 4 * i + 1)) h rfl T2 rfl rfl rfl (by simp [soff]; omega) (fun w h => ?_)
    refine WL.nil ?_
    refine W.seq (W.region rfl ?_)
    refine WL.p h Val.mv ?_
    refine WL.p h (Val.addi (c := k + 4 * i + 2) rfl rfl (by omega)) ?_
    refine WL.p h Val.as ?_
    refine WL.nil ?_
    refine W.seq (W.region rfl ?_)
    refine WL.p h Val.mv ?_
    refine WL.p h Val.mv ?_
    refine WL.p h Val.mv ?_
    refine WL.call C79 (args := [.int .i64 (k + 4 * i + 2)]) rfl ((markText_calls F w h.sub (k + 4 * i + 2) (by omega)).mono ?_)
    rintro e w' ⟨rfl, hE⟩
    have h := h.call hE
    refine ⟨_, rfl, ?_⟩
    refine WL.p h (Val.ix Try.underlying40 T79 h0 h5 ⟨_, rfl⟩ hlt) ?_
    refine WL.p h (Val.fa O79_2 rfl) ?_
    refine WL.st 0 (v := .string (mt (k + 4 * i + 2))) h rfl T9 rfl rfl rfl (by simp [soff]; omega) (fun w h => ?_)
    refine WL.nil ?_
    refine W.seq (W.region rfl ?_)
    refine WL.p h Val.mv ?_
    refine WL.p h (Val.addi (c := k + 4 * i + 3) rfl rfl (by omega)) ?_
    refine WL.p h Val.as ?_
    refine WL.nil ?_
    refine W.seq (W.region rfl ?_)
    refine WL.p h Val.mv ?_
    refine WL.p h Val.mv ?_
    refine WL.p h Val.mv ?_
    refine WL.p h (Val.ix Try.underlying40 T79 h0 h5 ⟨_, rfl⟩ hlt) ?_
    refine WL.p h (Val.fa O79_3 rfl) ?_
    refine WL.st 0 (v := .int .i64 (k + 4 * i + 3)) h rfl T3 rfl rfl rfl (by simp [soff]; omega) (fun w h => ?_)
    refine WL.nil ?_
    refine W.region rfl ?_
    refine WL.p h Val.mv ?_
    refine WL.p h (Val.addi (c := k + 4 * i + 4) rfl rfl (by omega)) ?_
    refine WL.p h Val.as ?_
    refine WL.nil ?_
    refine W.region rfl ?_
    refine WL.p h Val.mv ?_
    refine WL.p h (Val.addi (c := ((i + 1 : Nat) : Int)) h5 rfl (by omega)) ?_
    refine WL.p h Val.as ?_
    refine WL.nil ?_
    refine ⟨m - 1, by omega, i + 1, by omega, h.cast ?_, h0, by show Value.int .i64 (k + 4 * i + 4) = _; congr 1; omega, rfl⟩
    have := mkC_step k i cs (by omega)
    simp only [soff, Nat.zero_add, Nat.add_zero, List.set_cons_zero, Nat.mul_comm i 4]
    rw [this]
  · have hi : i = n := by omega
    subst hi
    refine WL.nil ?_
    refine W.condF rfl ?_
    refine W.exit ?_
    refine W.seq (W.region rfl ?_)
    refine WL.p h Val.mv ?_
    refine WL.p h Val.as ?_
    refine WL.nil ?_
    refine W.ret ?_
    exact fin1 rfl h1 ⟨rfl, h⟩
theorem markValue_calls {w0 w : World} {F0 F : Fz} {b n c : Nat} {cs : List Value} {k : Int} (h : Hp w0 F0 F [.box b cs 79] w) (hc : n ≤ c) (hl : 4 * n ≤ cs.length) (hk : 0 ≤ k ∧ k ≤ 1048576) (hn : n ≤ 1048576) :
    Calls Try.prog 24 #[.agg #[.slice (some ⟨b, 0, none⟩) n c], .int .i64 k] w fun e w' => e = .returned (.int .i64 (k + 4 * n)) ∧ Hp w0 F0 F [.box b (mkC k n cs) 79] w' := by
  refine calls 10 Try.func24 rfl rfl rfl ?_
  refine W.seq (W.region rfl ?_)
  refine WL.box h rfl (fun b2 w h => ?_)
  refine WL.p h Val.as ?_
  refine WL.nil ?_
  refine W.seq (W.region rfl ?_)
  refine WL.p h (Val.fa O42_0 rfl) ?_
  refine WL.p h (Val.ld 1 A40 rfl rfl rfl) ?_
  refine WL.p h Val.mv ?_
  obtain ⟨F1, hs1, hA, hback⟩ := h.lend
  refine WL.call C53 (args := [.slice (some ⟨b, 0, none⟩) n c, .int .i64 k]) rfl ((markAtomS_calls hA hc hl hk hn).mono ?_)
  rintro e w' ⟨rfl, hA⟩
  have h := (hback _ _ hA).keep 1
  refine ⟨_, rfl, ?_⟩
  refine WL.p h Val.as ?_
  refine WL.nil ?_
  refine W.seq (W.region rfl ?_)
  refine WL.p h Val.mv ?_
  refine WL.p h Val.as ?_
  refine WL.nil ?_
  refine W.ret ?_
  exact fin1 rfl rfl ⟨rfl, h⟩
/-- Marking nothing. -/
theorem mark0 (F : Fz) (w0 : World) (hF : Sub F (hv w0)) (k : Int) : Calls Try.prog 24 #[.agg #[.slice none 0 0], .int .i64 k] w0 fun e w' => e = .returned (.int .i64 k) ∧ Ext F w0 F w' := by
  have h53 : ∀ w, Sub F (hv w) → Calls Try.prog 53 #[.slice none 0 0, .int .i64 k] w fun e w' => e = .returned (.int .i64 k) ∧ Ext F w F w' := fun w hw => by
    refine calls 42 Try.func53 rfl rfl rfl ?_
    have h := Hp.start hw
    refine W.seq (W.region rfl ?_)
    refine WL.p h Val.as ?_
    refine WL.nil ?_
    refine W.seq (W.seq (W.region rfl ?_))
    refine WL.p h Val.as ?_
    refine WL.nil ?_
    refine W.block ?_
    refine W.loop (fun m R w' => Hp w F F [] w' ∧ R 0 = .slice none 0 0 ∧ R 1 = .int .i64 k ∧ R 5 = .int .i64 0) 0 ⟨h, rfl, rfl, rfl⟩ (fun m R w hI => ?_)
    clear h
    obtain ⟨h, h0, h1, h5⟩ := hI
    refine W.seq (W.seq (W.region rfl ?_))
    refine WL.p h Val.mv ?_
    refine WL.p h Val.mv ?_
    refine WL.p h (Val.len Try.underlying40 h0 ⟨_, _, rfl, Nat.le_refl _⟩) ?_
    refine WL.p h (Val.lt h5 rfl) ?_
    refine WL.nil ?_
    refine W.condF (show Value.bool (decide ((0 : Int) < ((0 : Nat) : Int))) = _ by simp) ?_
    refine W.exit ?_
    refine W.seq (W.region rfl ?_)
    refine WL.p h Val.mv ?_
    refine WL.p h Val.as ?_
    refine WL.nil ?_
    refine W.ret ?_
    exact fin1 rfl h1 ⟨rfl, h.toExt⟩
  refine calls 10 Try.func24 rfl rfl rfl ?_
  have h := Hp.start hF
  refine W.seq (W.region rfl ?_)
  refine WL.box h rfl (fun b2 w h => ?_)
  refine WL.p h Val.as ?_
  refine WL.nil ?_
  refine W.seq (W.region rfl ?_)
  refine WL.p h (Val.fa O42_0 rfl) ?_
  refine WL.p h (Val.ld 0 A40 rfl rfl rfl) ?_
  refine WL.p h Val.mv ?_
  refine WL.call C53 (args := [.slice none 0 0, .int .i64 k]) rfl ((h53 w h.sub).mono ?_)
  rintro e w' ⟨rfl, hE⟩
  have h := h.call hE
  refine ⟨_, rfl, ?_⟩
  refine WL.p h Val.as ?_
  refine WL.nil ?_
  refine W.seq (W.region rfl ?_)
  refine WL.p h Val.mv ?_
  refine WL.p h Val.as ?_
  refine WL.nil ?_
  refine W.ret ?_
  exact fin1 rfl rfl ⟨rfl, h.toExt⟩

def heI (w0 : World) (F : Fz) (v : Value) (n : Nat) (k : Int) (m : Nat) (R : Regs) (w : World) : Prop :=
  ∃ (i : Nat), m + i = n ∧ Hp w0 F F [] w ∧ R 0 = v ∧ R 1 = .int .i64 (k + 4 * i) ∧ R 5 = .int .i64 (i : Int)
theorem heldAtomS_calls (F : Fz) (w0 : World) (hF : Sub F (hv w0)) (v : Value) (n : Nat) (k : Int) (hr : FRow F v n 4 (rowA (marks k n))) (hk : 0 ≤ k ∧ k ≤ 1048576) (hn : n ≤ 1048576) :
    Calls Try.prog 54 #[v, .int .i64 k] w0 fun e w' => e = .returned (.int .i64 (k + 4 * n)) ∧ Ext F w0 F w' := by
  refine calls 50 Try.func54 rfl rfl rfl ?_
  have h := Hp.start hF
  refine W.seq (W.region rfl ?_)
  refine WL.p h Val.as ?_
  refine WL.nil ?_
  refine W.seq (W.seq (W.region rfl ?_))
  refine WL.p h Val.as ?_
  refine WL.nil ?_
  refine W.block ?_
  refine W.loop (heI w0 F v n k) n ?_ (fun m R w hI => ?_)
  · exact ⟨0, by omega, h, rfl, by show Value.int .i64 k = _; simp, rfl⟩
  clear h
  obtain ⟨i, hm, h, h0, h1, h5⟩ := hI
  refine W.seq (W.seq (W.region rfl ?_))
  refine WL.p h Val.mv ?_
  refine WL.p h Val.mv ?_
  refine WL.p h (Val.len Try.underlying40 h0 hr.val) ?_
  refine WL.p h (Val.lt h5 rfl) ?_
  refine WL.dec (fun c1 => ?_) (fun c1 => ?_)
  · have hlt : i < n := by omega
    have hg := marks_get (k := k) hlt
    refine WL.nil ?_
    refine W.condT rfl ?_
    refine W.skip ?_
    refine W.seq (W.block ?_)
    refine W.seq (W.seq (W.region rfl ?_))
    refine WL.p h Val.mv ?_
    refine WL.p h Val.mv ?_
    refine WL.p h (Val.ix Try.underlying40 T79 h0 h5 (hr.slice (by omega)) hlt) ?_
    refine WL.p h (Val.fa O79_0 rfl) ?_
    refine WL.p h (Val.ldRf A3 hr rfl (flat_get At.cells At.cells_len _ i 0 _ _ hg rfl)) ?_
    refine WL.p h Val.mv ?_
    refine WL.p h (Val.ne rfl h1) ?_
    refine WL.nil ?_
    refine W.condF (show Value.bool (decide ((mkA k i).k ≠ k + 4 * i)) = _ by simp [mkA]) ?_
    refine W.skip ?_
    refine W.seq (W.region rfl ?_)
    refine WL.p h Val.mv ?_
    refine WL.p h (Val.addi (c := k + 4 * i + 1) h1 rfl (by omega)) ?_
    refine WL.p h Val.as ?_
    refine WL.nil ?_
    refine W.seq (W.seq (W.region rfl ?_))
    refine WL.p h Val.mv ?_
    refine WL.p h Val.mv ?_
    refine WL.p h (Val.ix Try.underlying40 T79 h0 h5 (hr.slice (by omega)) hlt) ?_
    refine WL.p h (Val.fa O79_1 rfl) ?_
    refine WL.p h (Val.ldRf A2 hr rfl (flat_get At.cells At.cells_len _ i 1 _ _ hg rfl)) ?_
    refine WL.p h Val.mv ?_
    refine WL.p h (Val.ne (b := k + 4 * i + 1) rfl rfl) ?_
    refine WL.nil ?_
    refine W.condF (show Value.bool (decide ((mkA k i).n ≠ k + 4 * i + 1)) = _ by simp [mkA]) ?_
    refine W.skip ?_
    refine W.seq (W.region rfl ?_)
    refine WL.p h Val.mv ?_
    refine WL.p h (Val.addi (c := k + 4 * i + 2) rfl rfl (by omega)) ?_
    refine WL.p h Val.as ?_
    refine WL.nil ?_
    refine W.seq (W.seq (W.draw (fun w => Hp w0 F F [] w) [] 8 (by kernel_rfl) rfl rfl ?_))
    have hS := h.drewN 1
    refine WD.take 0 rfl (by kernel_rfl) (fun _ _ _ h => fin_panic h) hS Val.mv ?_
    refine WD.take 1 rfl (by kernel_rfl) (fun _ _ _ h => fin_panic h) hS Val.mv ?_
    refine WD.take 2 rfl (by kernel_rfl) (fun _ _ _ h => fin_panic h) hS (Val.ix Try.underlying40 T79 h0 h5 (hr.slice (by omega)) hlt) ?_
    refine WD.take 3 rfl (by kernel_rfl) (fun _ _ _ h => fin_panic h) hS (Val.fa O79_2 rfl) ?_
    refine WD.take 4 rfl (by kernel_rfl) (fun _ _ _ h => fin_panic h) hS (Val.ldRf A9 hr rfl (flat_get At.cells At.cells_len _ i 2 _ _ hg rfl)) ?_
    refine WD.take 5 rfl (by kernel_rfl) (fun _ _ _ h => fin_panic h) hS Val.mv ?_
    refine WD.one 6 rfl (by kernel_rfl) ?_
    refine WL.call C79 (args := [.int .i64 (k + 4 * i + 2)]) rfl ((markText_calls F _ hS.sub (k + 4 * i + 2) (by omega)).mono ?_)
    rintro e w' ⟨rfl, hE⟩
    have hS := hS.call hE
    refine ⟨_, rfl, ?_⟩
    refine WL.nil ?_
    refine ⟨hS, ?_⟩
    refine WD.take 7 rfl (by kernel_rfl) (fun _ _ _ h => fin_panic h) hS (Val.sNe rfl rfl) ?_
    refine WD.nil (by kernel_rfl) ?_
    have h := hS
    refine W.condF (show Value.bool (decide ((mkA k i).t ≠ mt (k + 4 * i + 2))) = _ by simp [mkA]) ?_
    refine W.skip ?_
    refine W.seq (W.region rfl ?_)
    refine WL.p h Val.mv ?_
    refine WL.p h (Val.addi (c := k + 4 * i + 3) rfl rfl (by omega)) ?_
    refine WL.p h Val.as ?_
    refine WL.nil ?_
    refine W.seq (W.seq (W.region rfl ?_))
    refine WL.p h Val.mv ?_
    refine WL.p h Val.mv ?_
    refine WL.p h (Val.ix Try.underlying40 T79 h0 h5 (hr.slice (by omega)) hlt) ?_
    refine WL.p h (Val.fa O79_3 rfl) ?_
    refine WL.p h (Val.ldRf A3 hr rfl (flat_get At.cells At.cells_len _ i 3 _ _ hg rfl)) ?_
    refine WL.p h Val.mv ?_
    refine WL.p h (Val.ne (b := k + 4 * i + 3) rfl rfl) ?_
    refine WL.nil ?_
    refine W.condF (show Value.bool (decide ((mkA k i).c ≠ k + 4 * i + 3)) = _ by simp [mkA]) ?_
    refine W.skip ?_
    refine W.region rfl ?_
    refine WL.p h Val.mv ?_
    refine WL.p h (Val.addi (c := k + 4 * i + 4) rfl rfl (by omega)) ?_
    refine WL.p h Val.as ?_
    refine WL.nil ?_
    refine W.region rfl ?_
    refine WL.p h Val.mv ?_
    refine WL.p h (Val.addi (c := ((i + 1 : Nat) : Int)) h5 rfl (by omega)) ?_
    refine WL.p h Val.as ?_
    refine WL.nil ?_
    exact ⟨m - 1, by omega, i + 1, by omega, h, h0, by show Value.int .i64 (k + 4 * i + 4) = _; congr 1; omega, rfl⟩
  · have hi : i = n := by omega
    subst hi
    refine WL.nil ?_
    refine W.condF rfl ?_
    refine W.exit ?_
    refine W.seq (W.region rfl ?_)
    refine WL.p h Val.mv ?_
    refine WL.p h Val.as ?_
    refine WL.nil ?_
    refine W.ret ?_
    exact fin1 rfl h1 ⟨rfl, h.toExt⟩
theorem heldValue_calls (F : Fz) (w0 : World) (hF : Sub F (hv w0)) (v : Value) (n : Nat) (k : Int) (hr : FRow F v n 4 (rowA (marks k n))) (hk : 0 ≤ k ∧ k ≤ 1048576) (hn : n ≤ 1048576) :
    Calls Try.prog 25 #[.agg #[v], .int .i64 k] w0 fun e w' => e = .returned (.int .i64 (k + 4 * n)) ∧ Ext F w0 F w' := by
  refine calls 12 Try.func25 rfl rfl rfl ?_
  have h := Hp.start hF
  refine W.seq (W.region rfl ?_)
  refine WL.box h rfl (fun b2 w h => ?_)
  refine WL.p h Val.as ?_
  refine WL.nil ?_
  refine W.seq (W.region rfl ?_)
  refine WL.p h (Val.fa O42_0 rfl) ?_
  refine WL.p h (Val.ld 0 A40 rfl rfl rfl) ?_
  refine WL.p h Val.mv ?_
  refine WL.call C54 (args := [v, .int .i64 k]) rfl ((heldAtomS_calls F w h.sub v n k hr hk hn).mono ?_)
  rintro e w' ⟨rfl, hE⟩
  have h := h.call hE
  refine ⟨_, rfl, ?_⟩
  refine WL.p h Val.as ?_
  refine WL.nil ?_
  refine W.seq (W.seq (W.region rfl ?_))
  refine WL.p h Val.mv ?_
  refine WL.p h (Val.lt (a := k + 4 * n) (b := 0) rfl rfl) ?_
  refine WL.dec (fun c1 => ?_) (fun c1 => ?_)
  · omega
  refine WL.nil ?_
  refine W.condF rfl ?_
  refine W.skip ?_
  refine W.seq (W.region rfl ?_)
  refine WL.p h Val.mv ?_
  refine WL.p h Val.as ?_
  refine WL.nil ?_
  refine W.ret ?_
  exact fin1 rfl rfl ⟨rfl, h.toExt⟩
end Go.Proofs.Ytmiihhbgfijcmaa.K

