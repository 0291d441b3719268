/- Put together from Ml, Wo, Wp. -/
import Derived.Test.YtmiihhbgfijcmaaOz
import Derived.Test.YtmiihhbgfijcmaaUw
import Derived.Test.YtmiihhbgfijcmaaSq
/- Marks, from further on. -/
namespace Go.Proofs.Ytmiihhbgfijcmaa.K
open Go Go.RowKit
set_option linter.unusedVariables false
set_option linter.unusedSimpArgs false
set_option maxRecDepth 20000
theorem markAtomL_calls {w0 w : World} {F0 F : Fz} {b n c : Nat} {cs : List Value} {k : Int} (h : Hp w0 F0 F [.box b cs 79] w) (hc : n ≤ c) (hl : 4 * n ≤ cs.length) (hk : 0 ≤ k ∧ k ≤ 8388608) (hn : n ≤ 1048576) :
    Calls Try.prog 53 #[.slice (some ⟨b, 0, none⟩) n c, .int .i64 k] w fun e w' => e = .returned (.int .i64 (k + 4 * n)) ∧ Hp w0 F0 F [.box b (mkC k n cs) 79] w' := by
  refine calls 42 Try.func53 rfl rfl rfl ?_
  refine W.seq (W.region rfl ?_)
  refine WL.p h Val.as ?_
  refine WL.nil ?_
  refine W.seq (W.seq (W.region rfl ?_))
  refine WL.p h Val.as ?_
  refine WL.nil ?_
  refine W.block ?_
  refine W.loop (maI w0 F0 F b n c cs k) n ?_ (fun m R w hI => ?_)
  · exact ⟨0, by omega, h.cast (by simp [mkC, marks, rowA]), rfl, by show Value.int .i64 k = _; simp, rfl⟩
  clear h
  obtain ⟨i, hm, h, h0, h1, h5⟩ := hI
  refine W.seq (W.seq (W.region rfl ?_))
  refine WL.p h Val.mv ?_
  refine WL.p h Val.mv ?_
  refine WL.p h (Val.len Try.underlying40 h0 ⟨_, _, rfl, hc⟩) ?_
  refine WL.p h (Val.lt h5 rfl) ?_
  refine WL.dec (fun c1 => ?_) (fun c1 => ?_)
  · have hlt : i < n := by omega
    have hcl := mkC_len k i cs (by omega)
    refine WL.nil ?_
    refine W.condT rfl ?_
    refine W.skip ?_
    refine W.seq (W.block ?_)
    refine W.seq (W.region rfl ?_)
    refine WL.p h Val.mv ?_
    refine WL.p h Val.mv ?_
    refine WL.p h Val.mv ?_
    refine WL.p h (Val.ix Try.underlying40 T79 h0 h5 ⟨_, rfl⟩ hlt) ?_
    refine WL.p h (Val.fa O79_0 rfl) ?_
    refine WL.st 0 (v := .int .i64 (k + 4 * i)) h rfl T3 rfl h1 rfl (by simp [soff]; omega) (fun w h => ?_)
    refine WL.nil ?_
    refine W.seq (W.region rfl ?_)
    refine WL.p h Val.mv ?_
    refine WL.p h (Val.addi (c := k + 4 * i + 1) h1 rfl (by omega)) ?_
    refine WL.p h Val.as ?_
    refine WL.nil ?_
    refine W.seq (W.region rfl ?_)
    refine WL.p h Val.mv ?_
    refine WL.p h Val.mv ?_
    refine WL.p h Val.mv ?_
    refine WL.p h (Val.ix Try.underlying40 T79 h0 h5 ⟨_, rfl⟩ hlt) ?_
    refine WL.p h (Val.fa O79_1 rfl) ?_
    refine WL.st 0 (v := .int .i64 (k + 4 * i + 1)) h rfl T2 rfl rfl rfl (by simp [soff]; omega) (fun w h => ?_)
    refine WL.nil ?_
    refine W.seq (W.region rfl ?_)
    refine WL.p h Val.mv ?_
    refine WL.p h (Val.addi (c := k + 4 * i + 2) rfl rfl (by omega)) ?_
    refine WL.p h Val.as ?_
    refine WL.nil ?_
    refine W.seq (W.region rfl ?_)
    refine WL.p h Val.mv ?_
    refine WL.p h Val.mv ?_
    refine WL.p h Val.mv ?_
    refine WL.call C79 (args := [.int .i64 (k + 4 * i + 2)]) rfl ((markText_calls F w h.sub (k + 4 * i + 2) (by omega)).mono ?_)
    rintro e w' ⟨rfl, hE⟩
    have h := h.call hE
    refine ⟨_, rfl, ?_⟩
    refine WL.p h (Val.ix Try.underlying40 T79 h0 h5 ⟨_, rfl⟩ hlt) ?_
    refine WL.p h (Val.fa O79_2 rfl) ?_
    refine WL.st 0 (v := .string (mt (k + 4 * i + 2))) h rfl T9 rfl rfl rfl (by simp [soff]; omega) (fun w h => ?_)
    refine WL.nil ?_
    refine W.seq (W.region rfl ?_)
    refine WL.p h Val.mv ?_
    refine WL.p h (Val.addi (c := k + 4 * i + 3) rfl rfl (by omega)) ?_
    refine WL.p h Val.as ?_
    refine WL.nil ?_
    refine W.seq (W.region rfl ?_)
    refine WL.p h Val.mv ?_
    refine WL.p h Val.mv ?_
    refine WL.p h Val.mv ?_
    refine WL.p h (Val.ix Try.underlying40 T79 h0 h5 ⟨_, rfl⟩ hlt) ?_
    refine WL.p h (Val.fa O79_3 rfl) ?_
    refine WL.st 0 (v := .int .i64 (k + 4 * i + 3)) h rfl T3 rfl rfl rfl (by simp [soff]; omega) (fun w h => ?_)
    refine WL.nil ?_
    refine W.region rfl ?_
    refine WL.p h Val.mv ?_
    refine WL.p h (Val.addi (c := k + 4 * i + 4) rfl rfl (by omega)) ?_
    refine WL.p h Val.as ?_
    refine WL.nil ?_
    refine W.region rfl ?_
    refine WL.p h Val.mv ?_
    refine WL.p h (Val.addi (c := ((i + 1 : Nat) : Int)) h5 rfl (by omega)) ?_
    refine WL.p h Val.as ?_
    refine WL.nil ?_
    refine ⟨m - 1, by omega, i + 1, by omega, h.cast ?_, h0, by show Value.int .i64 (k + 4 * i + 4) = _; congr 1; omega, rfl⟩
    have := mkC_step k i cs (by omega)
    simp only [soff, Nat.zero_add, Nat.add_zero, List.set_cons_zero, Nat.mul_comm i 4]
    rw [this]
  · have hi : i = n := by omega
    subst hi
    refine WL.nil ?_
    refine W.condF rfl ?_
    refine W.exit ?_
    refine W.seq (W.region rfl ?_)
    refine WL.p h Val.mv ?_
    refine WL.p h Val.as ?_
    refine WL.nil ?_
    refine W.ret ?_
    exact fin1 rfl h1 ⟨rfl, h⟩
theorem markValueL_calls {w0 w : World} {F0 F : Fz} {b n c : Nat} {cs : List Value} {k : Int} (h : Hp w0 F0 F [.box b cs 79] w) (hc : n ≤ c) (hl : 4 * n ≤ cs.length) (hk : 0 ≤ k ∧ k ≤ 8388608) (hn : n ≤ 1048576) :
    Calls Try.prog 24 #[.agg #[.slice (some ⟨b, 0, none⟩) n c], .int .i64 k] w fun e w' => e = .returned (.int .i64 (k + 4 * n)) ∧ Hp w0 F0 F [.box b (mkC k n cs) 79] w' := by
  refine calls 10 Try.func24 rfl rfl rfl ?_
  refine W.seq (W.region rfl ?_)
  refine WL.box h rfl (fun b2 w h => ?_)
  refine WL.p h Val.as ?_
  refine WL.nil ?_
  refine W.seq (W.region rfl ?_)
  refine WL.p h (Val.fa O42_0 rfl) ?_
  refine WL.p h (Val.ld 1 A40 rfl rfl rfl) ?_
  refine WL.p h Val.mv ?_
  obtain ⟨F1, hs1, hA, hback⟩ := h.lend
  refine WL.call C53 (args := [.slice (some ⟨b, 0, none⟩) n c, .int .i64 k]) rfl ((markAtomL_calls hA hc hl hk hn).mono ?_)
  rintro e w' ⟨rfl, hA⟩
  have h := (hback _ _ hA).keep 1
  refine ⟨_, rfl, ?_⟩
  refine WL.p h Val.as ?_
  refine WL.nil ?_
  refine W.seq (W.region rfl ?_)
  refine WL.p h Val.mv ?_
  refine WL.p h Val.as ?_
  refine WL.nil ?_
  refine W.ret ?_
  exact fin1 rfl rfl ⟨rfl, h⟩
/-- A box of atoms is marked. -/
theorem markBox {w0 w : World} {F0 F : Fz} {L : List Ch} (h : Hp w0 F0 F L w) (i : Nat) {xb : Nat} {es : List At} (hi : L[i]? = some (.box xb (rowA es) 79)) (k : Int) (hk : 0 ≤ k ∧ k ≤ 8388608) (hB : es.length ≤ 1048576) :
    Calls Try.prog 24 #[.agg #[.slice (some ⟨xb, 0, none⟩) es.length es.length], .int .i64 k] w fun e w' => e = .returned (.int .i64 (k + 4 * es.length)) ∧ ∃ c', Hp w0 F0 F (L.set i c') w' := by
  obtain ⟨F1, hs1, hA, hback⟩ := h.lend1 i hi
  refine (markValueL_calls (k := k) hA (Nat.le_refl _) (by rw [rowA_len]; omega) hk hB).mono ?_
  rintro e w' ⟨rfl, hA'⟩
  exact ⟨rfl, _, hback _ _ hA'⟩
theorem Hp.swapLast {w0 w : World} {F0 F : Fz} {A : List Ch} {c d : Ch} (h : Hp w0 F0 F (A ++ [c, d]) w) : Hp w0 F0 F (A ++ [d, c]) w := by
  refine h.reorder (fun i => if i = A.length then A.length + 1 else if i = A.length + 1 then A.length else i) (fun i j hi hj e => ?_) (fun i x hx => ?_)
  · simp only [List.length_append, List.length_cons, List.length_nil] at hi hj
    by_cases e1 : i = A.length <;> by_cases e2 : i = A.length + 1 <;> by_cases e3 : j = A.length <;> by_cases e4 : j = A.length + 1 <;> simp [e1, e2, e3, e4] at e <;> omega
  · by_cases e1 : i = A.length
    · subst e1
      rw [if_pos rfl, List.getElem?_append_right (by omega)]
      rw [List.getElem?_append_right (by omega)] at hx
      simpa using hx
    · by_cases e2 : i = A.length + 1
      · subst e2
        rw [if_neg e1, if_pos rfl, List.getElem?_append_right (by omega)]
        rw [List.getElem?_append_right (by omega)] at hx
        simpa using hx
      · rw [if_neg e1, if_neg e2]
        have hl := (List.getElem?_eq_some_iff.1 hx).1
        simp only [List.length_append, List.length_cons, List.length_nil] at hl
        rw [List.getElem?_append_left (by omega)] at hx ⊢
        exact hx
theorem opT_len {op : Int} {t u : T} : (opT op t u).1.length ≤ 1048576 := by
  have hb : ∀ b, (boolA b).1.length ≤ 1048576 := fun b => by simp [boolA]
  have hn : ∀ x : Nr, x.at.1.length ≤ 1048576 := fun x => by cases x <;> simp [Nr.at]
  have hr : ∀ l, (rightA l).1.length ≤ 1048576 := fun l => by
    unfold rightA
    split
    · rename_i t ht
      have := (treeP_some ht).2.2.1
      show l.length ≤ _
      omega
    · simp
  have h0 : (([], wType) : List At × ByteArray).1.length ≤ 1048576 := by simp
  have hh : (hasA t u).1.length ≤ 1048576 := by unfold hasA; (repeat' split) <;> first | exact hb _ | exact h0
  have ha : (addA t u).1.length ≤ 1048576 := by unfold addA; (repeat' split) <;> first | exact hr _ | exact hn _ | exact h0
  have key : ∀ (c : Prop) [Decidable c] (p q : List At × ByteArray), p.1.length ≤ 1048576 → q.1.length ≤ 1048576 → (if c then p else q).1.length ≤ 1048576 := fun c _ p q h1 h2 => by split <;> assumption
  unfold opT
  exact key _ _ _ (hb _) (key _ _ _ (hb _) (key _ _ _ hh (key _ _ _ ha (key _ _ _ h0 (key _ _ _ (key _ _ _ h0 (key _ _ _ (hb _) (hb _))) (key _ _ _ (key _ _ _ h0 (key _ _ _ (hb _) (key _ _ _ (hb _) (key _ _ _ (hb _) (hb _))))) (key _ _ _ h0 (hn _))))))))
theorem opP_len {op : Int} {es fs : List At} : (opP op es fs).1.length ≤ 1048576 := by
  unfold opP
  split
  · split
    · simp
    · exact opT_len
  · simp
end Go.Proofs.Ytmiihhbgfijcmaa.K


/- FnExactOp: the walk of the law. -/
namespace Go.Proofs.Ytmiihhbgfijcmaa.K
open Go Go.RowKit
set_option linter.unusedVariables false
set_option linter.unusedSimpArgs false
set_option maxRecDepth 20000
set_option maxHeartbeats 8000000 in
theorem lawOpW_calls (F : Fz) (w0 : World) (hF : Sub F (hv w0)) (op : Int) (va vb : Value) (es fs : List At) (hrt : FRow F va es.length 4 (rowA es)) (hru : FRow F vb fs.length 4 (rowA fs)) (hz1 : ∀ e ∈ es, e.t.size ≤ 9223372036854775807) (hz2 : ∀ e ∈ fs, e.t.size ≤ 9223372036854775807) (l : List At) (wd : ByteArray) (hl1 : l.length ≤ 1048576)
    (hSp0 : es.length ≤ 1048576 → fs.length ≤ 1048576 → ∀ (G : Fz) (w : World), Sub F G → Sub G (hv w) → ∀ s r, FRow G s es.length 4 (rowA es) → FRow G r fs.length 4 (rowA fs) → Calls Try.prog 28 #[.int .i64 op, .agg #[s], .agg #[r]] w (PSW G w (l, wd)))
    (hIm0 : ∀ (G : Fz) (w : World), Sub F G → Sub G (hv w) → ∀ s r, FRow G s es.length 4 (rowA es) → FRow G r fs.length 4 (rowA fs) → Calls Try.prog 29 #[.int .i64 op, .agg #[s], .agg #[r]] w (PO G w (l, wd))) :
    Calls Try.prog 9 #[.int .i64 op, .agg #[va], .agg #[vb]] w0 fun e w' => e = .returned (.bool true) ∧ Below w0.heap.size w0 w' := by
  refine calls 124 Try.func9 rfl rfl rfl ?_
  have h := Hp.start hF
  have hFB := Sub.refl F
  refine W.seq (W.region rfl ?_)
  refine WL.box h rfl (fun b4 w h => ?_)
  refine WL.box h rfl (fun b5 w h => ?_)
  refine WL.p h Val.as ?_
  refine WL.nil ?_
  refine W.seq (W.region rfl ?_)
  refine WL.p h Val.as ?_
  refine WL.nil ?_
  refine W.seq (W.region rfl ?_)
  refine WL.p h (Val.ldS 0 A37 T37 rfl rfl rfl) ?_
  refine WL.p h Val.mv ?_
  refine WL.call C15 (args := [.agg #[va], .int .i64 1048576]) rfl ((szValue_calls F w h.sub va es hrt 1048576 (by decide) hz1).mono ?_)
  rintro e w' ⟨r1, rfl, hE, hr1, hr2⟩
  have h := h.call hE
  refine ⟨_, rfl, ?_⟩
  refine WL.p h Val.as ?_
  refine WL.nil ?_
  refine W.seq (W.seq (W.region rfl ?_))
  refine WL.p h Val.mv ?_
  refine WL.p h (Val.lt (a := r1) (b := 0) rfl rfl) ?_
  refine WL.dec (fun c => ?_) (fun c => ?_)
  · refine WL.nil ?_
    refine W.condT rfl ?_
    refine W.seq (W.region rfl ?_)
    refine WL.p h Val.as ?_
    refine WL.nil ?_
    refine W.ret ?_
    exact fin1 (v := .bool true) rfl rfl ⟨rfl, h.toExt.below⟩
  refine WL.nil ?_
  refine W.condF rfl ?_
  refine W.skip ?_
  have hz3 := (hr2 (by omega)).1
  refine W.seq (W.region rfl ?_)
  refine WL.p h (Val.ldS 1 A37 T37 rfl rfl rfl) ?_
  refine WL.p h Val.mv ?_
  refine WL.call C15 (args := [.agg #[vb], .int .i64 r1]) rfl ((szValue_calls F _ h.sub vb fs hru r1 (by omega) hz2).mono ?_)
  rintro e w' ⟨r2, rfl, hE, hr3, hr4⟩
  have h := h.call hE
  refine ⟨_, rfl, ?_⟩
  refine WL.p h Val.as ?_
  refine WL.nil ?_
  refine W.seq (W.seq (W.region rfl ?_))
  refine WL.p h Val.mv ?_
  refine WL.p h (Val.lt (a := r2) (b := 0) rfl rfl) ?_
  refine WL.dec (fun c2 => ?_) (fun c2 => ?_)
  · refine WL.nil ?_
    refine W.condT rfl ?_
    refine W.seq (W.region rfl ?_)
    refine WL.p h Val.as ?_
    refine WL.nil ?_
    refine W.ret ?_
    exact fin1 (v := .bool true) rfl rfl ⟨rfl, h.toExt.below⟩
  refine WL.nil ?_
  refine W.condF rfl ?_
  refine W.skip ?_
  have hz4 := (hr4 (by omega)).1
  have hB1 : es.length ≤ 1048576 := by omega
  have hB2 : fs.length ≤ 1048576 := by omega
  have hSp := hSp0 hB1 hB2
  have hIm := hIm0
  have hb0 := Sub.refl F
  refine W.cut (fun R w => ∃ F2 sW b8, Sub F F2 ∧ Hp w0 F F2 [.box b4 [va] 37, .box b5 [vb] 37, .box b8 [sW] 42] w ∧ FRow F2 sW l.length 4 (rowA l) ∧ R 0 = .int .i64 op ∧ R 4 = pt b4 ∧ R 5 = pt b5 ∧ R 8 = pt b8 ∧ R 9 = .string wd ∧ R 7 = R 7) ?_ ?_
  · refine W.draw (fun w => ∃ L' : List Ch, Hp w0 F F ([.box b4 [va] 37, .box b5 [vb] 37] ++ L') w) [11] 12 (by kernel_rfl) rfl rfl ?_
    have h : Hp w0 F F ([.box b4 [va] 37, .box b5 [vb] 37] ++ []) _ := h.drewN 1
    have hS : ∃ L' : List Ch, Hp w0 F F ([.box b4 [va] 37, .box b5 [vb] 37] ++ L') _ := ⟨[], h⟩
    refine WD.take 0 rfl (by kernel_rfl) (fun _ _ _ h => fin_panic h) hS (Val.ex fun L' => Val.mv) ?_
    refine WD.take 1 rfl (by kernel_rfl) (fun _ _ _ h => fin_panic h) hS (Val.ex fun L' => Val.ldS 0 A37 T37 rfl rfl rfl) ?_
    refine WD.take 3 rfl (by kernel_rfl) (fun _ _ _ h => fin_panic h) hS (Val.ex fun L' => Val.ldS 1 A37 T37 rfl rfl rfl) ?_
    refine WD.all2 2 9 (by kernel_rfl) rfl rfl ?_ ?_
    · refine WL.call C17 (args := [.agg #[va]]) rfl ((toValue_row F _ h.sub va es hrt hB1).mono ?_)
      rintro e w' ⟨G1, s1, rfl, hE1, hr1⟩
      have h := h.call hE1
      refine ⟨_, rfl, ?_⟩
      refine WL.nil ?_
      have hg1 := hE1.ext
      have hS : ∃ L' : List Ch, Hp w0 F F ([.box b4 [va] 37, .box b5 [vb] 37] ++ L') _ := ⟨_, h.weak hFB hg1⟩
      refine ⟨hS, ?_⟩
      refine WD.all2 4 9 (by kernel_rfl) rfl rfl ?_ ?_
      · refine WL.call C17 (args := [.agg #[vb]]) rfl ((toValue_row G1 _ h.sub vb fs (hru.mono hg1) hB2).mono ?_)
        rintro e w' ⟨G2, s2, rfl, hE2, hr2⟩
        have h := h.call hE2
        refine ⟨_, rfl, ?_⟩
        refine WL.nil ?_
        have hg2 := hg1.trans hE2.ext
        have hS : ∃ L' : List Ch, Hp w0 F F ([.box b4 [va] 37, .box b5 [vb] 37] ++ L') _ := ⟨_, h.weak hFB hg2⟩
        refine ⟨hS, ?_⟩
        refine WD.all2 5 9 (by kernel_rfl) rfl rfl ?_ ?_
        · refine WL.call C28 (args := [.int .i64 op, .agg #[s1], .agg #[s2]]) rfl ((hSp G2 _ (hb0.trans hg2) h.sub s1 s2 (hr1.mono hE2.ext) hr2).mono ?_)
          rintro e w' ⟨G3, sW, rfl, hE3, hrowW⟩
          have h := h.call hE3
          refine ⟨_, rfl, ?_⟩
          refine WL.nil ?_
          have hg3 := hg2.trans hE3.ext
          have hS : ∃ L' : List Ch, Hp w0 F F ([.box b4 [va] 37, .box b5 [vb] 37] ++ L') _ := ⟨_, h.weak hFB hg3⟩
          refine ⟨hS, ?_⟩
          refine WD.take 6 rfl (by kernel_rfl) (fun _ _ _ h => fin_panic h) hS Val.mv ?_
          refine WD.take 7 rfl (by kernel_rfl) (fun _ _ _ h => fin_panic h) hS (Val.ext (v := .agg #[sW]) rfl rfl) ?_
          refine WD.take 8 rfl (by kernel_rfl) (fun _ _ _ h => fin_panic h) hS (Val.ext (v := .string wd) rfl rfl) ?_
          refine WD.one 9 rfl (by kernel_rfl) ?_
          refine WL.alloc h T42 (fun bz w h => ?_)
          refine WL.nil ?_
          have hS : ∃ L' : List Ch, Hp w0 F F ([.box b4 [va] 37, .box b5 [vb] 37] ++ L') _ := ⟨_, h.weak hFB hg3⟩
          refine ⟨hS, ?_⟩
          refine WD.one 10 rfl (by kernel_rfl) ?_
          refine WL.stS 2 h rfl T42 rfl (vs := [sW]) rfl (one1 hrowW.one) rfl rfl (fun w h => ?_)
          refine WL.nil ?_
          refine ⟨⟨_, h.weak hFB hg3⟩, ?_⟩
          refine WD.last 11 rfl (by kernel_rfl) rfl ?_
          refine WL.p h Val.as ?_
          refine WL.nil ?_
          refine WD.nil (by kernel_rfl) ?_
          exact ⟨G3, sW, bz, hg3, h, hrowW, rfl, rfl, rfl, rfl, rfl, rfl⟩
        · refine WL.alloc h T42 (fun bz w h => ?_)
          refine WL.nil ?_
          have hS : ∃ L' : List Ch, Hp w0 F F ([.box b4 [va] 37, .box b5 [vb] 37] ++ L') _ := ⟨_, h.weak hFB hg2⟩
          refine ⟨hS, ?_⟩
          refine WD.one 5 rfl (by kernel_rfl) ?_
          refine WL.call C28 (args := [.int .i64 op, .agg #[s1], .agg #[s2]]) rfl ((hSp G2 _ (hb0.trans hg2) h.sub s1 s2 (hr1.mono hE2.ext) hr2).mono ?_)
          rintro e w' ⟨G3, sW, rfl, hE3, hrowW⟩
          have h := h.call hE3
          refine ⟨_, rfl, ?_⟩
          refine WL.nil ?_
          have hg3 := hg2.trans hE3.ext
          have hS : ∃ L' : List Ch, Hp w0 F F ([.box b4 [va] 37, .box b5 [vb] 37] ++ L') _ := ⟨_, h.weak hFB hg3⟩
          refine ⟨hS, ?_⟩
          refine WD.take 6 rfl (by kernel_rfl) (fun _ _ _ h => fin_panic h) hS Val.mv ?_
          refine WD.take 7 rfl (by kernel_rfl) (fun _ _ _ h => fin_panic h) hS (Val.ext (v := .agg #[sW]) rfl rfl) ?_
          refine WD.take 8 rfl (by kernel_rfl) (fun _ _ _ h => fin_panic h) hS (Val.ext (v := .string wd) rfl rfl) ?_
          refine WD.one 10 rfl (by kernel_rfl) ?_
          refine WL.stS 2 h rfl T42 rfl (vs := [sW]) rfl (one1 hrowW.one) rfl rfl (fun w h => ?_)
          refine WL.nil ?_
          refine ⟨⟨_, h.weak hFB hg3⟩, ?_⟩
          refine WD.last 11 rfl (by kernel_rfl) rfl ?_
          refine WL.p h Val.as ?_
          refine WL.nil ?_
          refine WD.nil (by kernel_rfl) ?_
          exact ⟨G3, sW, bz, hg3, h, hrowW, rfl, rfl, rfl, rfl, rfl, rfl⟩
      · refine WL.alloc h T42 (fun bz w h => ?_)
        refine WL.nil ?_
        have hS : ∃ L' : List Ch, Hp w0 F F ([.box b4 [va] 37, .box b5 [vb] 37] ++ L') _ := ⟨_, h.weak hFB hg1⟩
        refine ⟨hS, ?_⟩
        refine WD.one 4 rfl (by kernel_rfl) ?_
        refine WL.call C17 (args := [.agg #[vb]]) rfl ((toValue_row G1 _ h.sub vb fs (hru.mono hg1) hB2).mono ?_)
        rintro e w' ⟨G2, s2, rfl, hE2, hr2⟩
        have h := h.call hE2
        refine ⟨_, rfl, ?_⟩
        refine WL.nil ?_
        have hg2 := hg1.trans hE2.ext
        have hS : ∃ L' : List Ch, Hp w0 F F ([.box b4 [va] 37, .box b5 [vb] 37] ++ L') _ := ⟨_, h.weak hFB hg2⟩
        refine ⟨hS, ?_⟩
        refine WD.one 5 rfl (by kernel_rfl) ?_
        refine WL.call C28 (args := [.int .i64 op, .agg #[s1], .agg #[s2]]) rfl ((hSp G2 _ (hb0.trans hg2) h.sub s1 s2 (hr1.mono hE2.ext) hr2).mono ?_)
        rintro e w' ⟨G3, sW, rfl, hE3, hrowW⟩
        have h := h.call hE3
        refine ⟨_, rfl, ?_⟩
        refine WL.nil ?_
        have hg3 := hg2.trans hE3.ext
        have hS : ∃ L' : List Ch, Hp w0 F F ([.box b4 [va] 37, .box b5 [vb] 37] ++ L') _ := ⟨_, h.weak hFB hg3⟩
        refine ⟨hS, ?_⟩
        refine WD.take 6 rfl (by kernel_rfl) (fun _ _ _ h => fin_panic h) hS Val.mv ?_
        refine WD.take 7 rfl (by kernel_rfl) (fun _ _ _ h => fin_panic h) hS (Val.ext (v := .agg #[sW]) rfl rfl) ?_
        refine WD.take 8 rfl (by kernel_rfl) (fun _ _ _ h => fin_panic h) hS (Val.ext (v := .string wd) rfl rfl) ?_
        refine WD.one 10 rfl (by kernel_rfl) ?_
        refine WL.stS 2 h rfl T42 rfl (vs := [sW]) rfl (one1 hrowW.one) rfl rfl (fun w h => ?_)
        refine WL.nil ?_
        refine ⟨⟨_, h.weak hFB hg3⟩, ?_⟩
        refine WD.last 11 rfl (by kernel_rfl) rfl ?_
        refine WL.p h Val.as ?_
        refine WL.nil ?_
        refine WD.nil (by kernel_rfl) ?_
        exact ⟨G3, sW, bz, hg3, h, hrowW, rfl, rfl, rfl, rfl, rfl, rfl⟩
    · refine WL.alloc h T42 (fun bz w h => ?_)
      refine WL.nil ?_
      have hS : ∃ L' : List Ch, Hp w0 F F ([.box b4 [va] 37, .box b5 [vb] 37] ++ L') _ := ⟨_, h⟩
      refine ⟨hS, ?_⟩
      refine WD.one 2 rfl (by kernel_rfl) ?_
      refine WL.call C17 (args := [.agg #[va]]) rfl ((toValue_row F _ h.sub va es hrt hB1).mono ?_)
      rintro e w' ⟨G1, s1, rfl, hE1, hr1⟩
      have h := h.call hE1
      refine ⟨_, rfl, ?_⟩
      refine WL.nil ?_
      have hg1 := hE1.ext
      have hS : ∃ L' : List Ch, Hp w0 F F ([.box b4 [va] 37, .box b5 [vb] 37] ++ L') _ := ⟨_, h.weak hFB hg1⟩
      refine ⟨hS, ?_⟩
      refine WD.one 4 rfl (by kernel_rfl) ?_
      refine WL.call C17 (args := [.agg #[vb]]) rfl ((toValue_row G1 _ h.sub vb fs (hru.mono hg1) hB2).mono ?_)
      rintro e w' ⟨G2, s2, rfl, hE2, hr2⟩
      have h := h.call hE2
      refine ⟨_, rfl, ?_⟩
      refine WL.nil ?_
      have hg2 := hg1.trans hE2.ext
      have hS : ∃ L' : List Ch, Hp w0 F F ([.box b4 [va] 37, .box b5 [vb] 37] ++ L') _ := ⟨_, h.weak hFB hg2⟩
      refine ⟨hS, ?_⟩
      refine WD.one 5 rfl (by kernel_rfl) ?_
      refine WL.call C28 (args := [.int .i64 op, .agg #[s1], .agg #[s2]]) rfl ((hSp G2 _ (hb0.trans hg2) h.sub s1 s2 (hr1.mono hE2.ext) hr2).mono ?_)
      rintro e w' ⟨G3, sW, rfl, hE3, hrowW⟩
      have h := h.call hE3
      refine ⟨_, rfl, ?_⟩
      refine WL.nil ?_
      have hg3 := hg2.trans hE3.ext
      have hS : ∃ L' : List Ch, Hp w0 F F ([.box b4 [va] 37, .box b5 [vb] 37] ++ L') _ := ⟨_, h.weak hFB hg3⟩
      refine ⟨hS, ?_⟩
      refine WD.take 6 rfl (by kernel_rfl) (fun _ _ _ h => fin_panic h) hS Val.mv ?_
      refine WD.take 7 rfl (by kernel_rfl) (fun _ _ _ h => fin_panic h) hS (Val.ext (v := .agg #[sW]) rfl rfl) ?_
      refine WD.take 8 rfl (by kernel_rfl) (fun _ _ _ h => fin_panic h) hS (Val.ext (v := .string wd) rfl rfl) ?_
      refine WD.one 10 rfl (by kernel_rfl) ?_
      refine WL.stS 2 h rfl T42 rfl (vs := [sW]) rfl (one1 hrowW.one) rfl rfl (fun w h => ?_)
      refine WL.nil ?_
      refine ⟨⟨_, h.weak hFB hg3⟩, ?_⟩
      refine WD.last 11 rfl (by kernel_rfl) rfl ?_
      refine WL.p h Val.as ?_
      refine WL.nil ?_
      refine WD.nil (by kernel_rfl) ?_
      exact ⟨G3, sW, bz, hg3, h, hrowW, rfl, rfl, rfl, rfl, rfl, rfl⟩
  clear h hFB hb0
  rintro R w ⟨F2, sW, b8, hb0, h, hrowW, p0, p4, p5, p8, p9, _⟩
  have hFB := hb0
  have hrt := hrt.mono hb0
  have hru := hru.mono hb0
  refine W.seq (W.region rfl ?_)
  refine WL.p h (Val.ldS 0 A37 T37 rfl p4 rfl) ?_
  refine WL.call C17 (args := [.agg #[va]]) rfl ((toValue_calls F2 _ h.sub va es hrt hB1).mono ?_)
  rintro e w' ⟨xb, rfl, hE, hxb, hcell⟩
  have h := h.gain (.box xb (rowA es) 79) hE.below hcell (fun b' hb' => by simp only [Ch.blk, Option.some.injEq] at hb'; omega)
  refine ⟨_, rfl, ?_⟩
  refine WL.alloc h T42 (fun b10 w h => ?_)
  refine WL.stS 4 h rfl T42 rfl (vs := [.slice (some ⟨xb, 0, none⟩) es.length es.length]) rfl (one1 rfl) rfl rfl (fun w h => ?_)
  refine WL.nil ?_
  refine W.seq (W.region rfl ?_)
  refine WL.p h (Val.ldS 1 A37 T37 rfl p5 rfl) ?_
  refine WL.call C17 (args := [.agg #[vb]]) rfl ((toValue_calls F2 _ h.sub vb fs hru hB2).mono ?_)
  rintro e w' ⟨yb, rfl, hE, hxb, hcell⟩
  have h := h.gain (.box yb (rowA fs) 79) hE.below hcell (fun b' hb' => by simp only [Ch.blk, Option.some.injEq] at hb'; omega)
  refine ⟨_, rfl, ?_⟩
  refine WL.alloc h T42 (fun b11 w h => ?_)
  refine WL.stS 6 h rfl T42 rfl (vs := [.slice (some ⟨yb, 0, none⟩) fs.length fs.length]) rfl (one1 rfl) rfl rfl (fun w h => ?_)
  refine WL.nil ?_
  refine W.seq (W.region rfl ?_)
  refine WL.p h Val.mv ?_
  refine WL.p h (Val.ldS 4 A42 T42 rfl rfl rfl) ?_
  refine WL.p h (Val.ldS 6 A42 T42 rfl rfl rfl) ?_
  refine WL.call C29 (args := [.int .i64 op, .agg #[.slice (some ⟨xb, 0, none⟩) es.length es.length], .agg #[.slice (some ⟨yb, 0, none⟩) fs.length fs.length]]) (congrArg (fun x => [x, Value.agg #[.slice (some ⟨xb, 0, none⟩) es.length es.length], Value.agg #[.slice (some ⟨yb, 0, none⟩) fs.length fs.length]]) p0) ((hIm (hv w) w (hb0.trans h.sub) (Sub.refl _) _ _ (box_row (h.holds 3 _ rfl) (rowA_len es) (by omega)) (box_row (h.holds 5 _ rfl) (rowA_len fs) (by omega))).mono ?_)
  rintro e w' ⟨g0, rfl, hp⟩
  have h := h.take1 hp
  refine ⟨_, rfl, ?_⟩
  refine WL.p h Val.mv ?_
  refine WL.p h (Val.ext (v := .agg #[g0]) rfl rfl) ?_
  refine WL.p h (Val.ext (v := .string wd) rfl rfl) ?_
  refine WL.alloc h T42 (fun b12 w h => ?_)
  refine WL.stS 8 h rfl T42 rfl (vs := [g0]) rfl (one1 (h.own1 7 rfl)) rfl rfl (fun w h => ?_)
  refine WL.p h Val.as ?_
  refine WL.nil ?_
  refine W.seq (W.seq (W.region rfl ?_))
  refine WL.p h (Val.ldS 8 A42 T42 rfl rfl rfl) ?_
  refine WL.p h (Val.ldS 2 A42 T42 rfl p8 rfl) ?_
  refine WL.call C19 (args := [.agg #[g0], .agg #[sW]]) rfl ((eqValue_calls (hv _) _ (Sub.refl _) g0 sW l l (h.row 7 rfl) (hrowW.mono h.sub)).mono ?_)
  rintro e w' ⟨rfl, hE⟩
  have h := h.below_step hE.below
  refine ⟨.bool true, by simp, ?_⟩
  refine WL.p h (Val.not rfl) ?_
  refine WL.p h Val.mv ?_
  refine WL.p h Val.mv ?_
  refine WL.p h Val.mv ?_
  refine WL.p h (Val.sNe (a := wd) (b := wd) rfl p9) ?_
  refine WL.p h (Val.pick rfl) ?_
  refine WL.nil ?_
  refine W.condF (show Value.bool (decide (_ ≠ _)) = _ by simp) ?_
  refine W.skip ?_
  refine W.seq (W.seq (W.draw (fun w => Hp w0 F F2 [.box b4 [va] 37, .box b5 [vb] 37, .box b8 [sW] 42, .box xb (rowA es) 79, .box b10 [.slice (some ⟨xb, 0, none⟩) es.length es.length] 42, .box yb (rowA fs) 79, .box b11 [.slice (some ⟨yb, 0, none⟩) fs.length fs.length] 42, .own g0 79 4 l.length (rowA l), .box b12 [g0] 42] w) [] 5 (by kernel_rfl) rfl rfl ?_))
  have hS := h.drewN 1
  refine WD.take 0 rfl (by kernel_rfl) (fun _ _ _ h => fin_panic h) hS (Val.ldS 4 A42 T42 rfl rfl rfl) ?_
  refine WD.take 1 rfl (by kernel_rfl) (fun _ _ _ h => fin_panic h) hS (Val.ldS 0 A37 T37 rfl p4 rfl) ?_
  refine WD.one 2 rfl (by kernel_rfl) ?_
  refine WL.call C17 (args := [.agg #[va]]) rfl ((toValue_row (hv _) _ (Sub.refl _) va es (hrt.mono hS.sub) hB1).mono ?_)
  rintro e w' ⟨F3, s3, rfl, hE, hrow3⟩
  have hx1 := (box_row (hS.holds 3 _ rfl) (rowA_len es) (by omega : es.length ≤ 9223372036854775807)).mono hE.ext
  have hS := hS.below_step hE.below
  refine ⟨_, rfl, ?_⟩
  refine WL.nil ?_
  refine ⟨hS, ?_⟩
  refine WD.one 3 rfl (by kernel_rfl) ?_
  refine WL.call C19 (args := [.agg #[.slice (some ⟨xb, 0, none⟩) es.length es.length], .agg #[s3]]) rfl ((eqValue_calls F3 _ hE.sub _ s3 es es hx1 hrow3).mono ?_)
  rintro e w' ⟨rfl, hE⟩
  have hS := hS.below_step hE.below
  refine ⟨_, rfl, ?_⟩
  refine WL.nil ?_
  refine ⟨hS, ?_⟩
  refine WD.take 4 rfl (by kernel_rfl) (fun _ _ _ h => fin_panic h) hS (Val.not rfl) ?_
  refine WD.nil (by kernel_rfl) ?_
  have h := hS
  refine W.condF (show Value.bool (!decide (_ = _)) = _ by simp) ?_
  refine W.skip ?_
  refine W.seq (W.seq (W.draw (fun w => Hp w0 F F2 [.box b4 [va] 37, .box b5 [vb] 37, .box b8 [sW] 42, .box xb (rowA es) 79, .box b10 [.slice (some ⟨xb, 0, none⟩) es.length es.length] 42, .box yb (rowA fs) 79, .box b11 [.slice (some ⟨yb, 0, none⟩) fs.length fs.length] 42, .own g0 79 4 l.length (rowA l), .box b12 [g0] 42] w) [] 5 (by kernel_rfl) rfl rfl ?_))
  have hS := h.drewN 1
  refine WD.take 0 rfl (by kernel_rfl) (fun _ _ _ h => fin_panic h) hS (Val.ldS 6 A42 T42 rfl rfl rfl) ?_
  refine WD.take 1 rfl (by kernel_rfl) (fun _ _ _ h => fin_panic h) hS (Val.ldS 1 A37 T37 rfl p5 rfl) ?_
  refine WD.one 2 rfl (by kernel_rfl) ?_
  refine WL.call C17 (args := [.agg #[vb]]) rfl ((toValue_row (hv _) _ (Sub.refl _) vb fs (hru.mono hS.sub) hB2).mono ?_)
  rintro e w' ⟨F3, s3, rfl, hE, hrow3⟩
  have hx1 := (box_row (hS.holds 5 _ rfl) (rowA_len fs) (by omega : fs.length ≤ 9223372036854775807)).mono hE.ext
  have hS := hS.below_step hE.below
  refine ⟨_, rfl, ?_⟩
  refine WL.nil ?_
  refine ⟨hS, ?_⟩
  refine WD.one 3 rfl (by kernel_rfl) ?_
  refine WL.call C19 (args := [.agg #[.slice (some ⟨yb, 0, none⟩) fs.length fs.length], .agg #[s3]]) rfl ((eqValue_calls F3 _ hE.sub _ s3 fs fs hx1 hrow3).mono ?_)
  rintro e w' ⟨rfl, hE⟩
  have hS := hS.below_step hE.below
  refine ⟨_, rfl, ?_⟩
  refine WL.nil ?_
  refine ⟨hS, ?_⟩
  refine WD.take 4 rfl (by kernel_rfl) (fun _ _ _ h => fin_panic h) hS (Val.not rfl) ?_
  refine WD.nil (by kernel_rfl) ?_
  have h := hS
  refine W.condF (show Value.bool (!decide (_ = _)) = _ by simp) ?_
  refine W.skip ?_
  refine W.seq (W.region rfl ?_)
  refine WL.p h Val.as ?_
  refine WL.nil ?_
  refine W.seq (W.region rfl ?_)
  refine WL.p h (Val.ldS 4 A42 T42 rfl rfl rfl) ?_
  refine WL.p h Val.mv ?_
  refine WL.call C24 (args := [.agg #[.slice (some ⟨xb, 0, none⟩) es.length es.length], .int .i64 1]) rfl ((markBox h 3 rfl 1 (by omega) hB1).mono ?_)
  rintro e w' ⟨rfl, c3, h⟩
  refine ⟨_, rfl, ?_⟩
  refine WL.p h Val.as ?_
  refine WL.nil ?_
  refine W.seq (W.region rfl ?_)
  refine WL.p h (Val.ldS 6 A42 T42 rfl rfl rfl) ?_
  refine WL.p h Val.mv ?_
  refine WL.call C24 (args := [.agg #[.slice (some ⟨yb, 0, none⟩) fs.length fs.length], .int .i64 (1 + 4 * (es.length : Int))]) rfl ((markBox h 5 rfl (1 + 4 * (es.length : Int)) (by omega) hB2).mono ?_)
  rintro e w' ⟨rfl, c5, h⟩
  refine ⟨_, rfl, ?_⟩
  refine WL.p h Val.as ?_
  refine WL.nil ?_
  refine W.seq (W.seq (W.region rfl ?_))
  refine WL.p h Val.mv ?_
  refine WL.p h (Val.lt (a := 1 + 4 * (es.length : Int) + 4 * (fs.length : Int)) (b := 0) rfl rfl) ?_
  refine WL.dec (fun c8 => ?_) (fun c8 => ?_)
  · omega
  refine WL.p h Val.mv ?_
  refine WL.p h (Val.ldS 8 A42 T42 rfl rfl rfl) ?_
  refine WL.p h (Val.ldS 2 A42 T42 rfl p8 rfl) ?_
  refine WL.call C19 (args := [.agg #[g0], .agg #[sW]]) rfl ((eqValue_calls (hv _) _ (Sub.refl _) g0 sW l l (h.row 7 rfl) (hrowW.mono h.sub)).mono ?_)
  rintro e w' ⟨rfl, hE⟩
  have h := h.below_step hE.below
  refine ⟨.bool true, by simp, ?_⟩
  refine WL.p h (Val.not rfl) ?_
  refine WL.p h (Val.pick rfl) ?_
  refine WL.p h Val.mv ?_
  refine WL.p h Val.mv ?_
  refine WL.p h Val.mv ?_
  refine WL.p h (Val.sNe (a := wd) (b := wd) rfl p9) ?_
  refine WL.p h (Val.pick rfl) ?_
  refine WL.nil ?_
  refine W.condF (show Value.bool (decide (_ ≠ _)) = _ by simp) ?_
  refine W.skip ?_
  refine W.seq (W.region rfl ?_)
  refine WL.p h Val.as ?_
  refine WL.nil ?_
  refine W.seq (W.region rfl ?_)
  refine WL.p h (Val.ldS 8 A42 T42 rfl rfl rfl) ?_
  refine WL.p h Val.mv ?_
  refine WL.call C24 (args := [.agg #[g0], .int .i64 1]) rfl ((markAny h 7 rfl hl1).mono ?_)
  rintro e w' ⟨rfl, c7, h, hmk⟩
  refine ⟨_, rfl, ?_⟩
  refine WL.p h Val.as ?_
  refine WL.nil ?_
  refine W.seq (W.region rfl ?_)
  refine WL.p h Val.as ?_
  refine WL.nil ?_
  refine W.seq (W.region rfl ?_)
  refine WL.p h (Val.ldS 8 A42 T42 rfl rfl rfl) ?_
  refine WL.p h Val.mv ?_
  refine WL.call C25 (args := [.agg #[g0], .int .i64 1]) rfl ((heldValue_calls (hv _) _ (Sub.refl _) g0 l.length 1 (hmk _ (h.holds 7 _ rfl)) (by decide) hl1).mono ?_)
  rintro e w' ⟨rfl, hE⟩
  have h := h.below_step hE.below
  refine ⟨_, rfl, ?_⟩
  refine WL.p h Val.as ?_
  refine WL.nil ?_
  refine W.seq (W.seq (W.region rfl ?_))
  refine WL.p h Val.mv ?_
  refine WL.p h (Val.lt (a := 1 + 4 * (l.length : Int)) (b := 0) rfl rfl) ?_
  refine WL.nil ?_
  refine W.condF (congrArg Value.bool (decide_eq_false (by omega))) ?_
  refine W.skip ?_
  refine W.seq (W.seq (W.region rfl ?_))
  refine WL.p h Val.mv ?_
  refine WL.p h Val.mv ?_
  refine WL.p h (Val.ne (a := 1 + 4 * (l.length : Int)) (b := 1 + 4 * (l.length : Int)) rfl rfl) ?_
  refine WL.nil ?_
  refine W.condF (show Value.bool (decide (_ ≠ _)) = _ by simp) ?_
  refine W.skip ?_
  have h : Hp w0 F F2 [.box b4 [va] 37, .box b5 [vb] 37, .box b8 [sW] 42, c3, .box b10 [.slice (some ⟨xb, 0, none⟩) es.length es.length] 42, c5, .box b11 [.slice (some ⟨yb, 0, none⟩) fs.length fs.length] 42, c7, .box b12 [g0] 42] _ := h
  refine W.cut (fun R w => ∃ b17 h0, Hp w0 F F2 [.box b4 [va] 37, .box b5 [vb] 37, .box b8 [sW] 42, c3, .box b10 [.slice (some ⟨xb, 0, none⟩) es.length es.length] 42, c5, .box b11 [.slice (some ⟨yb, 0, none⟩) fs.length fs.length] 42, c7, .box b12 [g0] 42, .own h0 79 4 l.length (rowA l), .box b17 [h0] 42] w ∧ R 8 = pt b8 ∧ R 9 = .string wd ∧ R 12 = pt b12 ∧ R 15 = .int .i64 (1 + 4 * (l.length : Int)) ∧ R 17 = pt b17 ∧ R 18 = .string wd) ?_ ?_
  · refine W.draw (fun w => ∃ L' : List Ch, Hp w0 F F2 ([.box b4 [va] 37, .box b5 [vb] 37, .box b8 [sW] 42, c3, .box b10 [.slice (some ⟨xb, 0, none⟩) es.length es.length] 42, c5, .box b11 [.slice (some ⟨yb, 0, none⟩) fs.length fs.length] 42, c7, .box b12 [g0] 42] ++ L') w) [11] 12 (by kernel_rfl) rfl rfl ?_
    have hb1 := hb0
    have h : Hp w0 F F2 ([.box b4 [va] 37, .box b5 [vb] 37, .box b8 [sW] 42, c3, .box b10 [.slice (some ⟨xb, 0, none⟩) es.length es.length] 42, c5, .box b11 [.slice (some ⟨yb, 0, none⟩) fs.length fs.length] 42, c7, .box b12 [g0] 42] ++ []) _ := h.drewN 1
    have hS : ∃ L' : List Ch, Hp w0 F F2 ([.box b4 [va] 37, .box b5 [vb] 37, .box b8 [sW] 42, c3, .box b10 [.slice (some ⟨xb, 0, none⟩) es.length es.length] 42, c5, .box b11 [.slice (some ⟨yb, 0, none⟩) fs.length fs.length] 42, c7, .box b12 [g0] 42] ++ L') _ := ⟨[], h⟩
    refine WD.take 0 rfl (by kernel_rfl) (fun _ _ _ h => fin_panic h) hS (Val.ex fun L' => Val.mv) ?_
    refine WD.take 1 rfl (by kernel_rfl) (fun _ _ _ h => fin_panic h) hS (Val.ex fun L' => Val.ldS 0 A37 T37 rfl p4 rfl) ?_
    refine WD.take 3 rfl (by kernel_rfl) (fun _ _ _ h => fin_panic h) hS (Val.ex fun L' => Val.ldS 1 A37 T37 rfl p5 rfl) ?_
    refine WD.all2 2 9 (by kernel_rfl) rfl rfl ?_ ?_
    · refine WL.call C17 (args := [.agg #[va]]) rfl ((toValue_row F2 _ h.sub va es hrt hB1).mono ?_)
      rintro e w' ⟨G1, s1, rfl, hE1, hr1⟩
      have h := h.call hE1
      refine ⟨_, rfl, ?_⟩
      refine WL.nil ?_
      have hg1 := hE1.ext
      have hS : ∃ L' : List Ch, Hp w0 F F2 ([.box b4 [va] 37, .box b5 [vb] 37, .box b8 [sW] 42, c3, .box b10 [.slice (some ⟨xb, 0, none⟩) es.length es.length] 42, c5, .box b11 [.slice (some ⟨yb, 0, none⟩) fs.length fs.length] 42, c7, .box b12 [g0] 42] ++ L') _ := ⟨_, h.weak hFB hg1⟩
      refine ⟨hS, ?_⟩
      refine WD.all2 4 9 (by kernel_rfl) rfl rfl ?_ ?_
      · refine WL.call C17 (args := [.agg #[vb]]) rfl ((toValue_row G1 _ h.sub vb fs (hru.mono hg1) hB2).mono ?_)
        rintro e w' ⟨G2, s2, rfl, hE2, hr2⟩
        have h := h.call hE2
        refine ⟨_, rfl, ?_⟩
        refine WL.nil ?_
        have hg2 := hg1.trans hE2.ext
        have hS : ∃ L' : List Ch, Hp w0 F F2 ([.box b4 [va] 37, .box b5 [vb] 37, .box b8 [sW] 42, c3, .box b10 [.slice (some ⟨xb, 0, none⟩) es.length es.length] 42, c5, .box b11 [.slice (some ⟨yb, 0, none⟩) fs.length fs.length] 42, c7, .box b12 [g0] 42] ++ L') _ := ⟨_, h.weak hFB hg2⟩
        refine ⟨hS, ?_⟩
        refine WD.all2 5 9 (by kernel_rfl) rfl rfl ?_ ?_
        · refine WL.call C29 (args := [.int .i64 op, .agg #[s1], .agg #[s2]]) (congrArg (fun x => [x, Value.agg #[s1], Value.agg #[s2]]) p0) ((hIm G2 _ (hb0.trans hg2) h.sub s1 s2 (hr1.mono hE2.ext) hr2).mono ?_)
          rintro e w' ⟨h0, rfl, hp⟩
          have h := h.take1 hp
          refine ⟨_, rfl, ?_⟩
          refine WL.nil ?_
          have hS : ∃ L' : List Ch, Hp w0 F F2 ([.box b4 [va] 37, .box b5 [vb] 37, .box b8 [sW] 42, c3, .box b10 [.slice (some ⟨xb, 0, none⟩) es.length es.length] 42, c5, .box b11 [.slice (some ⟨yb, 0, none⟩) fs.length fs.length] 42, c7, .box b12 [g0] 42] ++ L') _ := ⟨_, h.weak hFB hg2⟩
          refine ⟨hS, ?_⟩
          refine WD.take 6 rfl (by kernel_rfl) (fun _ _ _ h => fin_panic h) hS Val.mv ?_
          refine WD.take 7 rfl (by kernel_rfl) (fun _ _ _ h => fin_panic h) hS (Val.ext (v := .agg #[h0]) rfl rfl) ?_
          refine WD.take 8 rfl (by kernel_rfl) (fun _ _ _ h => fin_panic h) hS (Val.ext (v := .string wd) rfl rfl) ?_
          refine WD.one 9 rfl (by kernel_rfl) ?_
          refine WL.alloc h T42 (fun bz w h => ?_)
          refine WL.nil ?_
          have hS : ∃ L' : List Ch, Hp w0 F F2 ([.box b4 [va] 37, .box b5 [vb] 37, .box b8 [sW] 42, c3, .box b10 [.slice (some ⟨xb, 0, none⟩) es.length es.length] 42, c5, .box b11 [.slice (some ⟨yb, 0, none⟩) fs.length fs.length] 42, c7, .box b12 [g0] 42] ++ L') _ := ⟨_, h.weak hFB hg2⟩
          refine ⟨hS, ?_⟩
          refine WD.one 10 rfl (by kernel_rfl) ?_
          refine WL.stS 10 h rfl T42 rfl (vs := [h0]) rfl (one1 (h.own1 9 rfl)) rfl rfl (fun w h => ?_)
          refine WL.nil ?_
          refine ⟨⟨_, h.weak hFB hg2⟩, ?_⟩
          refine WD.last 11 rfl (by kernel_rfl) rfl ?_
          refine WL.p h Val.as ?_
          refine WL.nil ?_
          refine WD.nil (by kernel_rfl) ?_
          exact ⟨bz, h0, h.weak hFB hg2, p8, p9, rfl, rfl, rfl, rfl⟩
        · refine WL.alloc h T42 (fun bz w h => ?_)
          refine WL.nil ?_
          have hS : ∃ L' : List Ch, Hp w0 F F2 ([.box b4 [va] 37, .box b5 [vb] 37, .box b8 [sW] 42, c3, .box b10 [.slice (some ⟨xb, 0, none⟩) es.length es.length] 42, c5, .box b11 [.slice (some ⟨yb, 0, none⟩) fs.length fs.length] 42, c7, .box b12 [g0] 42] ++ L') _ := ⟨_, h.weak hFB hg2⟩
          refine ⟨hS, ?_⟩
          refine WD.one 5 rfl (by kernel_rfl) ?_
          refine WL.call C29 (args := [.int .i64 op, .agg #[s1], .agg #[s2]]) (congrArg (fun x => [x, Value.agg #[s1], Value.agg #[s2]]) p0) ((hIm G2 _ (hb0.trans hg2) h.sub s1 s2 (hr1.mono hE2.ext) hr2).mono ?_)
          rintro e w' ⟨h0, rfl, hp⟩
          have h := h.take1 hp
          refine ⟨_, rfl, ?_⟩
          refine WL.nil ?_
          have hS : ∃ L' : List Ch, Hp w0 F F2 ([.box b4 [va] 37, .box b5 [vb] 37, .box b8 [sW] 42, c3, .box b10 [.slice (some ⟨xb, 0, none⟩) es.length es.length] 42, c5, .box b11 [.slice (some ⟨yb, 0, none⟩) fs.length fs.length] 42, c7, .box b12 [g0] 42] ++ L') _ := ⟨_, h.weak hFB hg2⟩
          refine ⟨hS, ?_⟩
          refine WD.take 6 rfl (by kernel_rfl) (fun _ _ _ h => fin_panic h) hS Val.mv ?_
          refine WD.take 7 rfl (by kernel_rfl) (fun _ _ _ h => fin_panic h) hS (Val.ext (v := .agg #[h0]) rfl rfl) ?_
          refine WD.take 8 rfl (by kernel_rfl) (fun _ _ _ h => fin_panic h) hS (Val.ext (v := .string wd) rfl rfl) ?_
          refine WD.one 10 rfl (by kernel_rfl) ?_
          refine WL.stS 9 h rfl T42 rfl (vs := [h0]) rfl (one1 (h.own1 10 rfl)) rfl rfl (fun w h => ?_)
          refine WL.nil ?_
          refine ⟨⟨_, h.weak hFB hg2⟩, ?_⟩
          refine WD.last 11 rfl (by kernel_rfl) rfl ?_
          refine WL.p h Val.as ?_
          refine WL.nil ?_
          refine WD.nil (by kernel_rfl) ?_
          have h : Hp w0 F G2 ([.box b4 [va] 37, .box b5 [vb] 37, .box b8 [sW] 42, c3, .box b10 [.slice (some ⟨xb, 0, none⟩) es.length es.length] 42, c5, .box b11 [.slice (some ⟨yb, 0, none⟩) fs.length fs.length] 42, c7, .box b12 [g0] 42] ++ [.box bz [h0] 42, .own h0 79 4 l.length (rowA l)]) _ := h
          exact ⟨bz, h0, h.swapLast.weak hFB hg2, p8, p9, rfl, rfl, rfl, rfl⟩
      · refine WL.alloc h T42 (fun bz w h => ?_)
        refine WL.nil ?_
        have hS : ∃ L' : List Ch, Hp w0 F F2 ([.box b4 [va] 37, .box b5 [vb] 37, .box b8 [sW] 42, c3, .box b10 [.slice (some ⟨xb, 0, none⟩) es.length es.length] 42, c5, .box b11 [.slice (some ⟨yb, 0, none⟩) fs.length fs.length] 42, c7, .box b12 [g0] 42] ++ L') _ := ⟨_, h.weak hFB hg1⟩
        refine ⟨hS, ?_⟩
        refine WD.one 4 rfl (by kernel_rfl) ?_
        refine WL.call C17 (args := [.agg #[vb]]) rfl ((toValue_row G1 _ h.sub vb fs (hru.mono hg1) hB2).mono ?_)
        rintro e w' ⟨G2, s2, rfl, hE2, hr2⟩
        have h := h.call hE2
        refine ⟨_, rfl, ?_⟩
        refine WL.nil ?_
        have hg2 := hg1.trans hE2.ext
        have hS : ∃ L' : List Ch, Hp w0 F F2 ([.box b4 [va] 37, .box b5 [vb] 37, .box b8 [sW] 42, c3, .box b10 [.slice (some ⟨xb, 0, none⟩) es.length es.length] 42, c5, .box b11 [.slice (some ⟨yb, 0, none⟩) fs.length fs.length] 42, c7, .box b12 [g0] 42] ++ L') _ := ⟨_, h.weak hFB hg2⟩
        refine ⟨hS, ?_⟩
        refine WD.one 5 rfl (by kernel_rfl) ?_
        refine WL.call C29 (args := [.int .i64 op, .agg #[s1], .agg #[s2]]) (congrArg (fun x => [x, Value.agg #[s1], Value.agg #[s2]]) p0) ((hIm G2 _ (hb0.trans hg2) h.sub s1 s2 (hr1.mono hE2.ext) hr2).mono ?_)
        rintro e w' ⟨h0, rfl, hp⟩
        have h := h.take1 hp
        refine ⟨_, rfl, ?_⟩
        refine WL.nil ?_
        have hS : ∃ L' : List Ch, Hp w0 F F2 ([.box b4 [va] 37, .box b5 [vb] 37, .box b8 [sW] 42, c3, .box b10 [.slice (some ⟨xb, 0, none⟩) es.length es.length] 42, c5, .box b11 [.slice (some ⟨yb, 0, none⟩) fs.length fs.length] 42, c7, .box b12 [g0] 42] ++ L') _ := ⟨_, h.weak hFB hg2⟩
        refine ⟨hS, ?_⟩
        refine WD.take 6 rfl (by kernel_rfl) (fun _ _ _ h => fin_panic h) hS Val.mv ?_
        refine WD.take 7 rfl (by kernel_rfl) (fun _ _ _ h => fin_panic h) hS (Val.ext (v := .agg #[h0]) rfl rfl) ?_
        refine WD.take 8 rfl (by kernel_rfl) (fun _ _ _ h => fin_panic h) hS (Val.ext (v := .string wd) rfl rfl) ?_
        refine WD.one 10 rfl (by kernel_rfl) ?_
        refine WL.stS 9 h rfl T42 rfl (vs := [h0]) rfl (one1 (h.own1 10 rfl)) rfl rfl (fun w h => ?_)
        refine WL.nil ?_
        refine ⟨⟨_, h.weak hFB hg2⟩, ?_⟩
        refine WD.last 11 rfl (by kernel_rfl) rfl ?_
        refine WL.p h Val.as ?_
        refine WL.nil ?_
        refine WD.nil (by kernel_rfl) ?_
        have h : Hp w0 F G2 ([.box b4 [va] 37, .box b5 [vb] 37, .box b8 [sW] 42, c3, .box b10 [.slice (some ⟨xb, 0, none⟩) es.length es.length] 42, c5, .box b11 [.slice (some ⟨yb, 0, none⟩) fs.length fs.length] 42, c7, .box b12 [g0] 42] ++ [.box bz [h0] 42, .own h0 79 4 l.length (rowA l)]) _ := h
        exact ⟨bz, h0, h.swapLast.weak hFB hg2, p8, p9, rfl, rfl, rfl, rfl⟩
    · refine WL.alloc h T42 (fun bz w h => ?_)
      refine WL.nil ?_
      have hS : ∃ L' : List Ch, Hp w0 F F2 ([.box b4 [va] 37, .box b5 [vb] 37, .box b8 [sW] 42, c3, .box b10 [.slice (some ⟨xb, 0, none⟩) es.length es.length] 42, c5, .box b11 [.slice (some ⟨yb, 0, none⟩) fs.length fs.length] 42, c7, .box b12 [g0] 42] ++ L') _ := ⟨_, h⟩
      refine ⟨hS, ?_⟩
      refine WD.one 2 rfl (by kernel_rfl) ?_
      refine WL.call C17 (args := [.agg #[va]]) rfl ((toValue_row F2 _ h.sub va es hrt hB1).mono ?_)
      rintro e w' ⟨G1, s1, rfl, hE1, hr1⟩
      have h := h.call hE1
      refine ⟨_, rfl, ?_⟩
      refine WL.nil ?_
      have hg1 := hE1.ext
      have hS : ∃ L' : List Ch, Hp w0 F F2 ([.box b4 [va] 37, .box b5 [vb] 37, .box b8 [sW] 42, c3, .box b10 [.slice (some ⟨xb, 0, none⟩) es.length es.length] 42, c5, .box b11 [.slice (some ⟨yb, 0, none⟩) fs.length fs.length] 42, c7, .box b12 [g0] 42] ++ L') _ := ⟨_, h.weak hFB hg1⟩
      refine ⟨hS, ?_⟩
      refine WD.one 4 rfl (by kernel_rfl) ?_
      refine WL.call C17 (args := [.agg #[vb]]) rfl ((toValue_row G1 _ h.sub vb fs (hru.mono hg1) hB2).mono ?_)
      rintro e w' ⟨G2, s2, rfl, hE2, hr2⟩
      have h := h.call hE2
      refine ⟨_, rfl, ?_⟩
      refine WL.nil ?_
      have hg2 := hg1.trans hE2.ext
      have hS : ∃ L' : List Ch, Hp w0 F F2 ([.box b4 [va] 37, .box b5 [vb] 37, .box b8 [sW] 42, c3, .box b10 [.slice (some ⟨xb, 0, none⟩) es.length es.length] 42, c5, .box b11 [.slice (some ⟨yb, 0, none⟩) fs.length fs.length] 42, c7, .box b12 [g0] 42] ++ L') _ := ⟨_, h.weak hFB hg2⟩
      refine ⟨hS, ?_⟩
      refine WD.one 5 rfl (by kernel_rfl) ?_
      refine WL.call C29 (args := [.int .i64 op, .agg #[s1], .agg #[s2]]) (congrArg (fun x => [x, Value.agg #[s1], Value.agg #[s2]]) p0) ((hIm G2 _ (hb0.trans hg2) h.sub s1 s2 (hr1.mono hE2.ext) hr2).mono ?_)
      rintro e w' ⟨h0, rfl, hp⟩
      have h := h.take1 hp
      refine ⟨_, rfl, ?_⟩
      refine WL.nil ?_
      have hS : ∃ L' : List Ch, Hp w0 F F2 ([.box b4 [va] 37, .box b5 [vb] 37, .box b8 [sW] 42, c3, .box b10 [.slice (some ⟨xb, 0, none⟩) es.length es.length] 42, c5, .box b11 [.slice (some ⟨yb, 0, none⟩) fs.length fs.length] 42, c7, .box b12 [g0] 42] ++ L') _ := ⟨_, h.weak hFB hg2⟩
      refine ⟨hS, ?_⟩
      refine WD.take 6 rfl (by kernel_rfl) (fun _ _ _ h => fin_panic h) hS Val.mv ?_
      refine WD.take 7 rfl (by kernel_rfl) (fun _ _ _ h => fin_panic h) hS (Val.ext (v := .agg #[h0]) rfl rfl) ?_
      refine WD.take 8 rfl (by kernel_rfl) (fun _ _ _ h => fin_panic h) hS (Val.ext (v := .string wd) rfl rfl) ?_
      refine WD.one 10 rfl (by kernel_rfl) ?_
      refine WL.stS 9 h rfl T42 rfl (vs := [h0]) rfl (one1 (h.own1 10 rfl)) rfl rfl (fun w h => ?_)
      refine WL.nil ?_
      refine ⟨⟨_, h.weak hFB hg2⟩, ?_⟩
      refine WD.last 11 rfl (by kernel_rfl) rfl ?_
      refine WL.p h Val.as ?_
      refine WL.nil ?_
      refine WD.nil (by kernel_rfl) ?_
      have h : Hp w0 F G2 ([.box b4 [va] 37, .box b5 [vb] 37, .box b8 [sW] 42, c3, .box b10 [.slice (some ⟨xb, 0, none⟩) es.length es.length] 42, c5, .box b11 [.slice (some ⟨yb, 0, none⟩) fs.length fs.length] 42, c7, .box b12 [g0] 42] ++ [.box bz [h0] 42, .own h0 79 4 l.length (rowA l)]) _ := h
      exact ⟨bz, h0, h.swapLast.weak hFB hg2, p8, p9, rfl, rfl, rfl, rfl⟩
  clear h p8 p9 p0 p4 p5
  rintro R w ⟨b17, h0, h, p8, p9, p12, p15, p17, p18⟩
  refine W.seq (W.seq (W.region rfl ?_))
  refine WL.p h (Val.ldS 10 A42 T42 rfl p17 rfl) ?_
  refine WL.p h (Val.ldS 2 A42 T42 rfl p8 rfl) ?_
  refine WL.call C19 (args := [.agg #[h0], .agg #[sW]]) rfl ((eqValue_calls (hv _) _ (Sub.refl _) h0 sW l l (h.row 9 rfl) (hrowW.mono h.sub)).mono ?_)
  rintro e w' ⟨rfl, hE⟩
  have h := h.below_step hE.below
  refine ⟨.bool true, by simp, ?_⟩
  refine WL.p h (Val.not rfl) ?_
  refine WL.p h Val.mv ?_
  refine WL.p h Val.mv ?_
  refine WL.p h Val.mv ?_
  refine WL.p h (Val.sNe (a := wd) (b := wd) p18 p9) ?_
  refine WL.p h (Val.pick rfl) ?_
  refine WL.nil ?_
  refine W.condF (show Value.bool (decide (_ ≠ _)) = _ by simp) ?_
  refine W.skip ?_
  refine W.seq (W.region rfl ?_)
  refine WL.p h Val.as ?_
  refine WL.nil ?_
  refine W.seq (W.region rfl ?_)
  refine WL.p h (Val.ldS 8 A42 T42 rfl p12 rfl) ?_
  refine WL.p h Val.mv ?_
  refine WL.call C25 (args := [.agg #[g0], .int .i64 1]) rfl ((heldValue_calls (hv _) _ (Sub.refl _) g0 l.length 1 (hmk _ (h.holds 7 _ rfl)) (by decide) hl1).mono ?_)
  rintro e w' ⟨rfl, hE⟩
  have h := h.below_step hE.below
  refine ⟨_, rfl, ?_⟩
  refine WL.p h Val.as ?_
  refine WL.nil ?_
  refine W.seq (W.seq (W.region rfl ?_))
  refine WL.p h Val.mv ?_
  refine WL.p h (Val.lt (a := 1 + 4 * (l.length : Int)) (b := 0) rfl rfl) ?_
  refine WL.nil ?_
  refine W.condF (congrArg Value.bool (decide_eq_false (by omega))) ?_
  refine W.skip ?_
  refine W.seq (W.seq (W.region rfl ?_))
  refine WL.p h Val.mv ?_
  refine WL.p h Val.mv ?_
  refine WL.p h (Val.ne (a := 1 + 4 * (l.length : Int)) (b := 1 + 4 * (l.length : Int)) rfl p15) ?_
  refine WL.nil ?_
  refine W.condF (show Value.bool (decide (_ ≠ _)) = _ by simp) ?_
  refine W.skip ?_
  refine W.seq (W.region rfl ?_)
  refine WL.p h Val.as ?_
  refine WL.nil ?_
  refine W.ret ?_
  exact fin1 (v := .bool true) rfl rfl ⟨rfl, h.below⟩
end Go.Proofs.Ytmiihhbgfijcmaa.K


/- FnExactOp: the law, joined. -/
namespace Go.Proofs.Ytmiihhbgfijcmaa.K
open Go Go.RowKit
set_option linter.unusedVariables false
theorem Vt.of {es : List At} {t : T} (h : treeP es = some t) (hn : ∀ a ∈ es, (Lit.int .i64 a.n).wf = true) : Vt t := by
  obtain ⟨rfl, hw, hlen, it, hit, _⟩ := treeP_some h
  refine ⟨hw, hlen, ⟨it, hit⟩, ?_⟩
  have hm := List.mem_of_getElem? (enc_last t)
  have := hn _ hm
  simp only [Lit.wf, Bool.and_eq_true, decide_eq_true_eq] at this
  have h1 : IntKind.i64.min = -9223372036854775808 := by decide
  have h2 : IntKind.i64.max = 9223372036854775807 := by decide
  unfold inR
  omega
theorem cell_stays {W : World} {m : Int} (hm : W.cell? ⟨0, 0, none⟩ = some (.int .i64 m)) (w : World) (hs : Sub (hv W) (hv w)) : w.cell? ⟨0, 0, none⟩ = some (.int .i64 m) := by
  unfold World.cell? at hm ⊢
  cases h : W.heap[0]? with
  | none => simp only [h] at hm; cases hm
  | some o =>
    have h' : w.heap[0]? = some o := hs 0 o h
    simp only [h] at hm
    simp only [h']
    exact hm
theorem lawOp_calls (W : World) (m : Int) (hm : W.cell? ⟨0, 0, none⟩ = some (.int .i64 m)) (op : Int) (va vb : Value) (es fs : List At) (hrt : FRow (hv W) va es.length 4 (rowA es)) (hru : FRow (hv W) vb fs.length 4 (rowA fs))
    (h1 : ∀ a ∈ es, a.t.size ≤ 9223372036854775807 ∧ (Lit.int .i64 a.k).wf = true ∧ (Lit.int .i64 a.n).wf = true ∧ (Lit.int .i64 a.c).wf = true) (h2 : ∀ a ∈ fs, a.t.size ≤ 9223372036854775807 ∧ (Lit.int .i64 a.k).wf = true ∧ (Lit.int .i64 a.n).wf = true ∧ (Lit.int .i64 a.c).wf = true) :
    Calls Try.prog 9 #[.int .i64 op, .agg #[va], .agg #[vb]] W fun e w' => e = .returned (.bool true) ∧ Below W.heap.size W w' := by
  have v1 : ∀ t, treeP es = some t → Vt t := fun t ht => Vt.of ht fun a ha => (h1 a ha).2.2.1
  have v2 : ∀ t, treeP fs = some t → Vt t := fun t ht => Vt.of ht fun a ha => (h2 a ha).2.2.1
  refine lawOpW_calls (hv W) W (Sub.refl _) op va vb es fs hrt hru (fun e he => (h1 e he).1) (fun e he => (h2 e he).1) (opP op es fs).1 (opP op es fs).2 opP_len (fun hB1 hB2 G w hG hF s r hs hr => ?_) (fun G w hG hF s r hs hr => ?_)
  · exact specOp_calls G w hF op s r es fs hs hr hB1 hB2 v1 v2
  · exact implOp_calls G w hF m (fun w' hw' => cell_stays hm w' (hG.trans hw')) op s r es fs hs hr v1 v2
end Go.Proofs.Ytmiihhbgfijcmaa.K


