/- The draws: opening the reader, texts; results of a drawing function. -/
import Derived.Test.YtmiihhbgfijcmaaDs
namespace Go.Proofs.Ytmiihhbgfijcmaa.K
open Go Go.RowKit
set_option linter.unusedVariables false
set_option linter.unusedSimpArgs false
set_option maxRecDepth 20000
theorem rowB_take (bs : List UInt8) (k : Nat) : (rowB bs).take (k * 1) = rowB (bs.take k) := flat_take bc bc_len bs k
/-- The reader, opened. -/
theorem l1Open_calls (F : Fz) (w0 : World) (hF : Sub F (hv w0)) (v : Value) (bs : List UInt8) (hr : FRow F v bs.length 1 (rowB bs)) :
    Calls Try.prog 55 #[v] w0 fun e w' => ∃ br bv bs', e = .returned (pt br) ∧ Hp w0 F F [rd br bv 0] w' ∧ FRow F bv bs'.length 1 (rowB bs') ∧ bs'.length ≤ 2000 := by
  refine calls 11 Try.func55 rfl rfl rfl ?_
  have h := Hp.start hF
  refine W.seq (W.region rfl ?_)
  refine WL.p h Val.as ?_
  refine WL.nil ?_
  refine W.cut (fun R w => Hp w0 F F [] w ∧ ∃ bv bs', R 0 = bv ∧ FRow F bv bs'.length 1 (rowB bs') ∧ bs'.length ≤ 2000) ?_ ?_
  · refine W.seq (W.region rfl ?_)
    refine WL.p h Val.mv ?_
    refine WL.p h (Val.len Try.underlying52 rfl hr.val) ?_
    refine WL.p h (Val.gt rfl rfl) ?_
    refine WL.dec (fun c => ?_) (fun c => ?_)
    · refine WL.nil ?_
      refine W.condT rfl ?_
      refine W.region rfl ?_
      refine WL.p h Val.mv ?_
      refine WL.p h (Val.slToV (i := 2000) Try.underlying52 T5 rfl rfl hr.val (by omega)) ?_
      refine WL.p h Val.as ?_
      refine WL.nil ?_
      refine ⟨h, _, bs.take 2000, rfl, ?_, by simp; omega⟩
      have := hr.head (i := 2000) (by omega)
      rw [rowB_take] at this
      have e : (bs.take 2000).length = 2000 := by simp; omega
      rw [e]; exact this
    · refine WL.nil ?_
      refine W.condF rfl ?_
      refine W.skip ?_
      exact ⟨h, _, bs, rfl, hr, by omega⟩
  · clear h
    rintro R w ⟨h, bv, bs', h0, hr', hl⟩
    obtain ⟨A, c, rfl, _⟩ := hr'.val
    refine W.seq (W.region rfl ?_)
    refine WL.p h Val.mv ?_
    refine WL.p h (Val.build1 h0 (B123 _ _ _)) ?_
    refine WL.box h (cs := [.slice A bs'.length c, .int .i64 0]) rfl (fun br w h => ?_)
    refine WL.p h Val.as ?_
    refine WL.nil ?_
    refine W.ret ?_
    exact fin1 rfl rfl ⟨br, _, bs', rfl, h, hr', hl⟩
/-- A text many times. -/
theorem l1Many_calls (F : Fz) (w0 : World) (hF : Sub F (hv w0)) (s : ByteArray) (n : Int) (hs : s.size = 1) (hn : 0 ≤ n ∧ n ≤ 2000) : Calls Try.prog 101 #[.string s, .int .i64 n] w0 fun e w' => ∃ t, e = .returned (.string t) ∧ Ext F w0 F w' := by
  refine calls 20 Try.func101 rfl rfl rfl ?_
  have h := Hp.start hF
  refine W.seq (W.region rfl ?_)
  refine WL.p h Val.as ?_
  refine WL.nil ?_
  refine W.seq (W.region rfl ?_)
  refine WL.p h Val.as ?_
  refine WL.nil ?_
  refine W.seq (W.block ?_)
  obtain ⟨k, rfl⟩ : ∃ k : Nat, n = k := ⟨n.toNat, by omega⟩
  refine W.loop (fun m R w => ∃ (s t : ByteArray), Hp w0 F F [] w ∧ R 0 = .string s ∧ R 1 = .int .i64 (m : Int) ∧ R 5 = .string t ∧ t.size + s.size * m ≤ 2000 ∧ m ≤ 2000) k ⟨s, ⟨#[]⟩, h, rfl, rfl, rfl, by rw [hs]; show 0 + 1 * k ≤ _; omega, by omega⟩ (fun m R w hI => ?_)
  clear h
  obtain ⟨s, t, h, h0, h1, h5, hb, hm2⟩ := hI
  refine W.seq (W.seq (W.region rfl ?_))
  refine WL.p h Val.mv ?_
  refine WL.p h (Val.gt h1 rfl) ?_
  refine WL.dec (fun c => ?_) (fun c => ?_)
  · have hsz : s.size ≤ s.size * m := Nat.le_mul_of_pos_right _ (by omega)
    have hdiv : (s.size + s.size) * (m / 2) + s.size * (m % 2) = s.size * m := by
      rw [← Nat.two_mul, Nat.mul_comm 2, Nat.mul_assoc, ← Nat.mul_add, Nat.div_add_mod]
    have hmod : ((m : Int)).tmod 2 = ((m % 2 : Nat) : Int) := by rw [Int.tmod_eq_emod_of_nonneg (by omega)]; omega
    refine WL.nil ?_
    refine W.condT rfl ?_
    refine W.skip ?_
    refine W.block ?_
    refine W.cut (fun R w => ∃ t : ByteArray, Hp w0 F F [] w ∧ R 0 = .string s ∧ R 1 = .int .i64 (m : Int) ∧ R 5 = .string t ∧ t.size + (s.size + s.size) * (m / 2) ≤ 2000) ?_ ?_
    · refine W.seq (W.region rfl ?_)
      refine WL.p h Val.mv ?_
      refine WL.p h (Val.rem h1 rfl (by decide)) ?_
      refine WL.p h (Val.eq (b := 1) rfl rfl) ?_
      refine WL.dec (fun c2 => ?_) (fun c2 => ?_)
      · rw [hmod] at c2
        have h2 : m % 2 = 1 := by omega
        rw [h2, Nat.mul_one] at hdiv
        refine WL.nil ?_
        refine W.condT rfl ?_
        refine W.region rfl ?_
        refine WL.p h Val.mv ?_
        refine WL.p h Val.mv ?_
        refine WL.p h (Val.sAdd h5 h0 (by omega)) ?_
        refine WL.p h Val.as ?_
        refine WL.nil ?_
        exact ⟨_, h, h0, h1, rfl, by rw [ByteArray.size_append]; omega⟩
      · refine WL.nil ?_
        refine W.condF rfl ?_
        refine W.skip ?_
        exact ⟨t, h, h0, h1, h5, by omega⟩
    · clear h h0 h1 h5
      rintro R w ⟨t, h, h0, h1, h5, hb⟩
      refine W.seq (W.region rfl ?_)
      refine WL.p h Val.mv ?_
      refine WL.p h Val.mv ?_
      refine WL.p h (Val.sAdd h0 h0 (by omega)) ?_
      refine WL.p h Val.as ?_
      refine WL.nil ?_
      refine W.region rfl ?_
      refine WL.p h Val.mv ?_
      refine WL.p h (Val.quoi (c := ((m / 2 : Nat) : Int)) h1 rfl (by decide) (by rw [Int.tdiv_eq_ediv_of_nonneg (by omega)]; omega)) ?_
      refine WL.p h Val.as ?_
      refine WL.nil ?_
      exact ⟨m / 2, by omega, s ++ s, t, h, rfl, rfl, h5, by rw [ByteArray.size_append]; exact hb, by omega⟩
  · refine WL.nil ?_
    refine W.condF rfl ?_
    refine W.exit ?_
    refine W.seq (W.region rfl ?_)
    refine WL.p h Val.mv ?_
    refine WL.p h Val.as ?_
    refine WL.nil ?_
    refine W.ret ?_
    exact fin1 rfl h5 ⟨t, rfl, h.toExt⟩

section
variable {w0 w w' : World} {F0 F : Fz} {L : List Ch} {br : Nat} {bv : Value} {p : Int} {bs : List UInt8}
/-- A number drawn while other chunks stand beside the reader. -/
theorem pickL (h : Hp w0 F0 F L w) (i : Nat) (hi : L[i]? = some (rd br bv p)) (hr : FRow F bv bs.length 1 (rowB bs)) (hl : bs.length ≤ 2000) (hp : 0 ≤ p ∧ p ≤ 1099511627776) (n : Int) (hn : n ≤ 1099511627776) :
    Calls Try.prog 57 #[pt br, .int .i64 n] w fun e w' => ∃ r : Int, e = .returned (.int .i64 r) ∧ Hp w0 F0 F (L.set i (rd br bv (p + 1))) w' ∧ 0 ≤ r ∧ (1 ≤ n → r < n) := by
  obtain ⟨F1, hs, hA, hback⟩ := h.lend1 i hi
  refine (pick_calls hA (hr.mono hs) hl hp n hn).mono ?_
  rintro e w' ⟨r, rfl, h', h1, h2⟩
  exact ⟨r, rfl, hback _ _ h', h1, h2⟩
/-- What a function tells that draws a value. -/
def PR (w0 : World) (F0 F : Fz) (br : Nat) (bv : Value) (p C : Int) (B : Nat) (e : Ending) (w : World) : Prop :=
  ∃ s es c p', e = .returned (.agg #[s]) ∧ Hp w0 F0 F [rd br bv p', c] w ∧ Held c s es.length 4 (rowA es) ∧ p ≤ p' ∧ p' ≤ p + C ∧ es ≠ [] ∧ es.length ≤ B
/-- The same beside other chunks; the value is fixed then. -/
theorem liftR {f : FuncId} {args : Array Value} {C : Int} {B : Nat} (h : Hp w0 F0 F L w) (i : Nat) (hi : L[i]? = some (rd br bv p)) (base : ∀ F1, Sub F F1 → Hp w0 F0 F1 [rd br bv p] w → Calls Try.prog f args w (PR w0 F0 F1 br bv p C B)) :
    Calls Try.prog f args w fun e w' => ∃ F' s es p', e = .returned (.agg #[s]) ∧ Sub F F' ∧ Hp w0 F0 F' (L.set i (rd br bv p')) w' ∧ FRow F' s es.length 4 (rowA es) ∧ p ≤ p' ∧ p' ≤ p + C ∧ es ≠ [] ∧ es.length ≤ B := by
  obtain ⟨F1, hs, hA, hback⟩ := h.lend2 i hi
  refine (base F1 hs hA).mono ?_
  rintro e w' ⟨s, es, c, p', rfl, h', hh, h1, h2, h3, h4⟩
  have h := hback _ _ _ h'
  obtain ⟨F', hs', h, hr⟩ := h.freezeLast hh
  exact ⟨F', s, es, p', rfl, hs', h, hr, h1, h2, h3, h4⟩
end
set_option maxHeartbeats 1000000 in
theorem l1DrawText_base {w0 w : World} {F0 F : Fz} {br : Nat} {bv : Value} {p : Int} {bs : List UInt8} (h : Hp w0 F0 F [rd br bv p] w) (hr : FRow F bv bs.length 1 (rowB bs)) (hl : bs.length ≤ 2000) (hp : 0 ≤ p ∧ p ≤ 1099511627000) :
    Calls Try.prog 102 #[pt br] w fun e w' => ∃ t p', e = .returned (.string t) ∧ Hp w0 F0 F [rd br bv p'] w' ∧ p ≤ p' ∧ p' ≤ p + 6 := by
  refine calls 30 Try.func102 rfl rfl rfl ?_
  have hfin : ∀ {w : World} {t : ByteArray} {p'}, Hp w0 F0 F [rd br bv p'] w → p ≤ p' → p' ≤ p + 6 → (fun e w' => ∃ t p', e = Ending.returned (.string t) ∧ Hp w0 F0 F [rd br bv p'] w' ∧ p ≤ p' ∧ p' ≤ p + 6) (.returned (.string t)) w := fun h h1 h2 => ⟨_, _, rfl, h, h1, h2⟩
  refine W.seq (W.region rfl ?_)
  refine WL.p h Val.as ?_
  refine WL.nil ?_
  refine W.seq (W.seq (W.region rfl ?_))
  refine WL.p h Val.mv ?_
  refine WL.call C57 (args := [pt br, .int .i64 10]) rfl ((pickL h 0 rfl hr hl (by omega) 10 (by omega)).mono ?_)
  rintro e w' ⟨r, rfl, h, hr1, hr2⟩
  refine ⟨_, rfl, ?_⟩
  refine WL.nil ?_
  refine W.block ?_
  refine W.seq (W.region rfl ?_)
  refine WL.p h (Val.eq (a := r) (b := 0) rfl rfl) ?_
  refine WL.dec (fun c0 => ?_) (fun c0 => ?_)
  · refine WL.p h Val.as ?_
    refine WL.nil ?_
    refine W.condT rfl ?_
    refine W.seq (W.region rfl ?_)
    refine WL.p h Val.as ?_
    refine WL.nil ?_
    refine W.ret ?_
    exact fin1 (v := .string ⟨#[]⟩) rfl rfl (hfin h (by omega) (by omega))
  refine WL.p h Val.as ?_
  refine WL.nil ?_
  refine W.condF rfl ?_
  refine W.seq (W.region rfl ?_)
  refine WL.p h (Val.eq (a := r) (b := 1) rfl rfl) ?_
  refine WL.dec (fun c0 => ?_) (fun c0 => ?_)
  · refine WL.p h Val.as ?_
    refine WL.nil ?_
    refine W.condT rfl ?_
    refine W.seq (W.region rfl ?_)
    refine WL.p h Val.as ?_
    refine WL.nil ?_
    refine W.ret ?_
    exact fin1 (v := .string ⟨#[49, 50]⟩) rfl rfl (hfin h (by omega) (by omega))
  refine WL.p h Val.as ?_
  refine WL.nil ?_
  refine W.condF rfl ?_
  refine W.seq (W.region rfl ?_)
  refine WL.p h (Val.eq (a := r) (b := 2) rfl rfl) ?_
  refine WL.dec (fun c0 => ?_) (fun c0 => ?_)
  · refine WL.p h Val.as ?_
    refine WL.nil ?_
    refine W.condT rfl ?_
    refine W.seq (W.region rfl ?_)
    refine WL.p h Val.as ?_
    refine WL.nil ?_
    refine W.ret ?_
    exact fin1 (v := .string ⟨#[97, 46, 99]⟩) rfl rfl (hfin h (by omega) (by omega))
  refine WL.p h Val.as ?_
  refine WL.nil ?_
  refine W.condF rfl ?_
  refine W.seq (W.region rfl ?_)
  refine WL.p h (Val.eq (a := r) (b := 3) rfl rfl) ?_
  refine WL.dec (fun c0 => ?_) (fun c0 => ?_)
  · refine WL.p h Val.as ?_
    refine WL.nil ?_
    refine W.condT rfl ?_
    refine W.seq (W.region rfl ?_)
    refine WL.p h Val.as ?_
    refine WL.nil ?_
    refine W.ret ?_
    exact fin1 (v := .string ⟨#[113, 34, 117, 92, 111, 10, 255]⟩) rfl rfl (hfin h (by omega) (by omega))
  refine WL.p h Val.as ?_
  refine WL.nil ?_
  refine W.condF rfl ?_
  refine W.seq (W.region rfl ?_)
  refine WL.p h (Val.eq (a := r) (b := 4) rfl rfl) ?_
  refine WL.dec (fun c0 => ?_) (fun c0 => ?_)
  · refine WL.p h Val.as ?_
    refine WL.nil ?_
    refine W.condT rfl ?_
    refine W.seq (W.region rfl ?_)
    refine WL.p h Val.as ?_
    refine WL.nil ?_
    refine W.ret ?_
    exact fin1 (v := .string ⟨#[97, 44, 98, 44, 44, 99]⟩) rfl rfl (hfin h (by omega) (by omega))
  refine WL.p h Val.as ?_
  refine WL.nil ?_
  refine W.condF rfl ?_
  refine W.skip ?_
  refine W.seq (W.region rfl ?_)
  refine WL.p h Val.as ?_
  refine WL.nil ?_
  refine W.seq (W.seq (W.region rfl ?_))
  refine WL.p h Val.mv ?_
  refine WL.call C57 (args := [pt br, .int .i64 4]) rfl ((pickL h 0 rfl hr hl (by omega) 4 (by omega)).mono ?_)
  rintro e w' ⟨r4, rfl, h, h41, h42⟩
  refine ⟨_, rfl, ?_⟩
  refine WL.p h Val.as ?_
  refine WL.nil ?_
  refine W.block ?_
  have h42' := h42 (by omega)
  refine W.loop (fun m R w => ∃ (t : ByteArray) (p' : Int), Hp w0 F0 F [rd br bv p'] w ∧ R 0 = pt br ∧ R 3 = .string t ∧ R 4 = .int .i64 ((m : Int) - 1) ∧ t.size + m ≤ 4 ∧ p ≤ p' ∧ p' + m ≤ p + 6) (r4 + 1).toNat ?_ (fun m R w hI => ?_)
  · exact ⟨⟨#[]⟩, _, h, rfl, rfl, by show Value.int .i64 r4 = _; congr 1; omega, by show 0 + _ ≤ _; omega, by omega, by omega⟩
  clear h
  obtain ⟨t, p', h, h0, h3, h4, ht, hp1, hp2⟩ := hI
  refine W.seq (W.seq (W.region rfl ?_))
  refine WL.p h Val.mv ?_
  refine WL.p h (Val.ge h4 rfl) ?_
  refine WL.dec (fun c => ?_) (fun c => ?_)
  · refine WL.nil ?_
    refine W.condT rfl ?_
    refine W.skip ?_
    refine W.seq (W.block ?_)
    refine W.region rfl ?_
    refine WL.p h Val.mv ?_
    refine WL.p h Val.mv ?_
    refine WL.call C57 (args := [pt br, .int .i64 4]) (congrArg (fun x => [x, Value.int .i64 4]) h0) ((pickL h 0 rfl hr hl (by omega) 4 (by omega)).mono ?_)
    rintro e w' ⟨x, rfl, h, hx1, hx2⟩
    refine ⟨_, rfl, ?_⟩
    have hx3 := hx2 (by omega)
    obtain ⟨k, rfl⟩ : ∃ k : Nat, x = k := ⟨x.toNat, by omega⟩
    refine WL.p h (Val.slStrFrom (lo := k) (s := ⟨#[97, 98, 99, 120]⟩) Try.underlying9 rfl rfl (by show k ≤ 4; omega)) ?_
    refine WL.p h (Val.slStrTo (hi := 1) Try.underlying9 rfl rfl (by rw [ByteArray.size_extract]; show 1 ≤ min 4 4 - k; omega)) ?_
    refine WL.p h (Val.sAdd h3 rfl (by simp only [ByteArray.size_extract]; omega)) ?_
    refine WL.p h Val.as ?_
    refine WL.nil ?_
    refine W.region rfl ?_
    refine WL.p h Val.mv ?_
    refine WL.p h (Val.subi (c := ((m - 1 : Nat) : Int) - 1) h4 rfl (by omega)) ?_
    refine WL.p h Val.as ?_
    refine WL.nil ?_
    refine ⟨m - 1, by omega, _, _, h, h0, rfl, rfl, ?_, by omega, by omega⟩
    rw [ByteArray.size_append]; simp only [ByteArray.size_extract]; omega
  · refine WL.nil ?_
    refine W.condF rfl ?_
    refine W.exit ?_
    refine W.seq (W.region rfl ?_)
    refine WL.p h Val.mv ?_
    refine WL.p h Val.as ?_
    refine WL.nil ?_
    refine W.ret ?_
    exact fin1 rfl h3 (hfin h (by omega) (by omega))
/-- A text drawn beside other chunks. -/
theorem l1DrawText_calls {w0 w : World} {F0 F : Fz} {L : List Ch} {br : Nat} {bv : Value} {p : Int} {bs : List UInt8} (h : Hp w0 F0 F L w) (i : Nat) (hi : L[i]? = some (rd br bv p)) (hr : FRow F bv bs.length 1 (rowB bs)) (hl : bs.length ≤ 2000) (hp : 0 ≤ p ∧ p ≤ 1099511627000) :
    Calls Try.prog 102 #[pt br] w fun e w' => ∃ t p', e = .returned (.string t) ∧ Hp w0 F0 F (L.set i (rd br bv p')) w' ∧ p ≤ p' ∧ p' ≤ p + 6 := by
  obtain ⟨F1, hs, hA, hback⟩ := h.lend1 i hi
  refine (l1DrawText_base hA (hr.mono hs) hl hp).mono ?_
  rintro e w' ⟨t, p', rfl, h', h1, h2⟩
  exact ⟨t, p', rfl, hback _ _ h', h1, h2⟩
end Go.Proofs.Ytmiihhbgfijcmaa.K

