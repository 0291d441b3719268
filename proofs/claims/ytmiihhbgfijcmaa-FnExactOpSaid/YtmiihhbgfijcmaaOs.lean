/- The reference's order of values, walked. -/
import Derived.Test.YtmiihhbgfijcmaaOr
import Derived.Test.YtmiihhbgfijcmaaVw
namespace Go.Proofs.Ytmiihhbgfijcmaa.K
open Go Go.RowKit
set_option linter.unusedVariables false
set_option linter.unusedSimpArgs false
set_option maxRecDepth 20000
theorem C72 : CF Try.prog 72 := ⟨_, Try.func72, rfl, rfl⟩
theorem C44 : CF Try.prog 44 := ⟨_, Try.func44, rfl, rfl⟩
theorem C20 : CF Try.prog 20 := ⟨_, Try.func20, rfl, rfl⟩
def PI (F : Fz) (w0 : World) (r : Int) (e : Ending) (w : World) : Prop := e = .returned (.int .i64 r) ∧ Ext F w0 F w
theorem PI.mk {F w0 r w} {F' : Fz} (hE : Ext F w0 F' w) : PI F w0 r (.returned (.int .i64 r)) w := ⟨rfl, hE.forget⟩
theorem PI.of {F w0 r r' w} {F' : Fz} (hE : Ext F w0 F' w) (h : r' = r) : PI F w0 r (.returned (.int .i64 r')) w := ⟨by rw [h], hE.forget⟩
theorem l5Cmp_calls (F : Fz) (w : World) (hF : Sub F (hv w)) (less same : Bool) : Calls Try.prog 72 #[.bool less, .bool same] w (PI F w (bif same then 0 else bif less then -1 else 1)) := by
  refine calls 7 Try.func72 rfl rfl rfl ?_
  have h := Hp.start hF
  refine W.seq (W.region rfl ?_)
  refine WL.p h Val.as ?_
  refine WL.nil ?_
  refine W.seq (W.seq (W.region rfl ?_))
  refine WL.p h Val.mv ?_
  refine WL.nil ?_
  cases same with
  | true =>
    refine W.condT rfl ?_
    refine W.seq (W.region rfl ?_)
    refine WL.p h Val.as ?_
    refine WL.nil ?_
    refine W.ret ?_
    exact fin1 (v := .int .i64 0) rfl rfl (PI.mk h.toExt)
  | false =>
    refine W.condF rfl ?_
    refine W.skip ?_
    refine W.seq (W.seq (W.region rfl ?_))
    refine WL.p h Val.mv ?_
    refine WL.nil ?_
    cases less with
    | true =>
      refine W.condT rfl ?_
      refine W.seq (W.region rfl ?_)
      refine WL.p h Val.as ?_
      refine WL.nil ?_
      refine W.ret ?_
      exact fin1 (v := .int .i64 (-1)) rfl rfl (PI.mk h.toExt)
    | false =>
      refine W.condF rfl ?_
      refine W.skip ?_
      refine W.seq (W.region rfl ?_)
      refine WL.p h Val.as ?_
      refine WL.nil ?_
      refine W.ret ?_
      exact fin1 (v := .int .i64 1) rfl rfl (PI.mk h.toExt)
def ol (w0 : World) (F F' : Fz) (a b p q : Value) (b2 b3 b5 b6 : Nat) (x y : At) (ks ls : List T) (m : Nat) (R : Regs) (w : World) : Prop :=
  ∃ i, m + i = ks.length ∧ Hp w0 F F' [.box b2 [a] 42, .box b3 [b] 42, .box b5 x.cells 79, .box b6 y.cells 79] w ∧ R 7 = p ∧ R 9 = q ∧ R 11 = .int .i64 (i : Int) ∧ i ≤ ls.length ∧
    ∀ (j : Nat) x y, j < i → ks[j]? = some x → ls[j]? = some y → ordT x y = 0
def oc (w0 : World) (F F' : Fz) (a b : Value) (b2 b3 b5 b6 : Nat) (x y : At) (R : Regs) (w : World) : Prop :=
  Hp w0 F F' [.box b2 [a] 42, .box b3 [b] 42, .box b5 x.cells 79, .box b6 y.cells 79] w ∧ R 2 = .pointer (some ⟨b2, 0, none⟩) ∧ R 3 = .pointer (some ⟨b3, 0, none⟩) ∧ x.k = y.k ∧ ¬ (x.k = 2 ∨ x.k = 3) ∧ x.k ≠ 4
set_option maxHeartbeats 2000000 in
theorem l5Order_calls : ∀ (n : Nat) (F : Fz) (w0 : World) (hF : Sub F (hv w0)) (a b : Value) (t u : T) (ht : t.Wf) (hu : u.Wf) (hr : FRow F a t.enc.length 4 (rowA t.enc)) (hs : FRow F b u.enc.length 4 (rowA u.enc)) (hB : t.enc.length ≤ 1048576) (hB2 : u.enc.length ≤ 1048576) (hn : t.enc.length = n), Calls Try.prog 44 #[.agg #[a], .agg #[b]] w0 (PI F w0 (ordT t u)) := by
  intro n
  induction n using Nat.strongRecOn with
  | ind n ih =>
    intro F w0 hF a b t u ht hu hr hs hB hB2 hn
    refine calls 102 Try.func44 rfl rfl rfl ?_
    have h := Hp.start hF
    obtain ⟨x, ks⟩ := t
    obtain ⟨y, ls⟩ := u
    refine W.seq (W.region rfl ?_)
    refine WL.box h rfl (fun b2 w h => ?_)
    refine WL.box h rfl (fun b3 w h => ?_)
    refine WL.p h Val.as ?_
    refine WL.nil ?_
    refine W.seq (W.region rfl ?_)
    refine WL.p h (Val.ldS 0 A42 T42 rfl rfl rfl) ?_
    refine WL.call C48 (args := [.agg #[a]]) rfl ((l5Last_calls F _ h.sub a _ hr x (enc_last (.node x ks))).mono ?_)
    rintro e w' ⟨rfl, hE⟩
    have h := h.call hE
    refine ⟨_, rfl, ?_⟩
    refine WL.alloc h T79 (fun b5 w h => ?_)
    refine WL.stS 2 h rfl T79 rfl (vs := x.cells) rfl (by simp [At.cells, Value.oneCell']) rfl rfl (fun w h => ?_)
    refine WL.nil ?_
    refine W.seq (W.region rfl ?_)
    refine WL.p h (Val.ldS 1 A42 T42 rfl rfl rfl) ?_
    refine WL.call C48 (args := [.agg #[b]]) rfl ((l5Last_calls F _ h.sub b _ hs y (enc_last (.node y ls))).mono ?_)
    rintro e w' ⟨rfl, hE⟩
    have h := h.call hE
    refine ⟨_, rfl, ?_⟩
    refine WL.alloc h T79 (fun b6 w h => ?_)
    refine WL.stS 3 h rfl T79 rfl (vs := y.cells) rfl (by simp [At.cells, Value.oneCell']) rfl rfl (fun w h => ?_)
    refine WL.nil ?_
    refine W.seq (W.seq (W.region rfl ?_))
    refine WL.p h (Val.fa O79_0 rfl) ?_
    refine WL.p h (Val.ld 2 A3 rfl rfl rfl) ?_
    refine WL.p h (Val.fa O79_0 rfl) ?_
    refine WL.p h (Val.ld 3 A3 rfl rfl rfl) ?_
    refine WL.p h (Val.ne rfl rfl) ?_
    refine WL.dec (fun c1 => ?_) (fun c1 => ?_)
    · refine WL.nil ?_
      refine W.condT rfl ?_
      refine W.seq (W.region rfl ?_)
      refine WL.p h (Val.fa O79_0 rfl) ?_
      refine WL.p h (Val.ld 2 A3 rfl rfl rfl) ?_
      refine WL.p h (Val.fa O79_0 rfl) ?_
      refine WL.p h (Val.ld 3 A3 rfl rfl rfl) ?_
      refine WL.p h (Val.lt rfl rfl) ?_
      refine WL.call C72 (args := [.bool (decide (x.k < y.k)), .bool false]) rfl ((l5Cmp_calls F _ h.sub _ _).mono ?_)
      rintro e w' ⟨rfl, hE⟩
      have h := h.call hE
      refine ⟨_, rfl, ?_⟩
      refine WL.p h Val.as ?_
      refine WL.nil ?_
      refine W.ret ?_
      refine fin1 rfl rfl (PI.of h.toExt ?_)
      rw [ordT, if_pos (by simpa [T.atom] using c1)]
      simp only [T.atom, cond_false]
      by_cases hlt : x.k < y.k <;> simp [hlt]
    refine WL.nil ?_
    refine W.condF rfl ?_
    refine W.skip ?_
    have hk : x.k = y.k := Decidable.not_not.1 c1
    refine W.cut (oc w0 F F a b b2 b3 b5 b6 x y) (W.seq (W.region rfl ?_)) (fun R w hJ => ?_)
    · refine WL.p h (Val.fa O79_0 rfl) ?_
      refine WL.p h (Val.ld 2 A3 rfl rfl rfl) ?_
      refine WL.nil ?_
      refine W.block ?_
      refine W.seq (W.seq (W.region rfl ?_))
      refine WL.p h (Val.eq rfl rfl) ?_
      refine WL.dec (fun k2 => ?_) (fun k2 => ?_)
      · refine WL.p h Val.as ?_
        refine WL.nil ?_
        refine W.condT rfl ?_
        refine W.skip ?_
        refine W.condT rfl ?_
        refine W.seq (W.region rfl ?_)
        refine WL.p h (Val.fa O79_1 rfl) ?_
        refine WL.p h (Val.ld 2 A2 rfl rfl rfl) ?_
        refine WL.p h (Val.fa O79_1 rfl) ?_
        refine WL.p h (Val.ld 3 A2 rfl rfl rfl) ?_
        refine WL.p h (Val.lt rfl rfl) ?_
        refine WL.p h (Val.fa O79_1 rfl) ?_
        refine WL.p h (Val.ld 2 A2 rfl rfl rfl) ?_
        refine WL.p h (Val.fa O79_1 rfl) ?_
        refine WL.p h (Val.ld 3 A2 rfl rfl rfl) ?_
        refine WL.p h (Val.eq rfl rfl) ?_
        refine WL.call C72 (args := [.bool (decide (x.n < y.n)), .bool (decide (x.n = y.n))]) rfl ((l5Cmp_calls F _ h.sub _ _).mono ?_)
        rintro e w' ⟨rfl, hE⟩
        have h := h.call hE
        refine ⟨_, rfl, ?_⟩
        refine WL.p h Val.as ?_
        refine WL.nil ?_
        refine W.ret ?_
        refine fin1 rfl rfl (PI.of h.toExt ?_)
        rw [ordT, if_neg (by simpa [T.atom] using hk), if_pos (by omega), cmpI]
        simp only [T.atom]
        by_cases heq : x.n = y.n <;> by_cases hlt : x.n < y.n <;> simp [heq, hlt] <;> omega
      refine WL.p h Val.as ?_
      refine WL.nil ?_
      refine W.condF rfl ?_
      refine W.region rfl ?_
      refine WL.p h (Val.eq rfl rfl) ?_
      refine WL.dec (fun k3 => ?_) (fun k3 => ?_)
      · refine WL.p h Val.as ?_
        refine WL.nil ?_
        refine W.condT rfl ?_
        refine W.seq (W.region rfl ?_)
        refine WL.p h (Val.fa O79_1 rfl) ?_
        refine WL.p h (Val.ld 2 A2 rfl rfl rfl) ?_
        refine WL.p h (Val.fa O79_1 rfl) ?_
        refine WL.p h (Val.ld 3 A2 rfl rfl rfl) ?_
        refine WL.p h (Val.lt rfl rfl) ?_
        refine WL.p h (Val.fa O79_1 rfl) ?_
        refine WL.p h (Val.ld 2 A2 rfl rfl rfl) ?_
        refine WL.p h (Val.fa O79_1 rfl) ?_
        refine WL.p h (Val.ld 3 A2 rfl rfl rfl) ?_
        refine WL.p h (Val.eq rfl rfl) ?_
        refine WL.call C72 (args := [.bool (decide (x.n < y.n)), .bool (decide (x.n = y.n))]) rfl ((l5Cmp_calls F _ h.sub _ _).mono ?_)
        rintro e w' ⟨rfl, hE⟩
        have h := h.call hE
        refine ⟨_, rfl, ?_⟩
        refine WL.p h Val.as ?_
        refine WL.nil ?_
        refine W.ret ?_
        refine fin1 rfl rfl (PI.of h.toExt ?_)
        rw [ordT, if_neg (by simpa [T.atom] using hk), if_pos (by omega), cmpI]
        simp only [T.atom]
        by_cases heq : x.n = y.n <;> by_cases hlt : x.n < y.n <;> simp [heq, hlt] <;> omega
      refine WL.p h Val.as ?_
      refine WL.nil ?_
      refine W.condF rfl ?_
      refine W.seq (W.region rfl ?_)
      refine WL.p h (Val.eq rfl rfl) ?_
      refine WL.dec (fun k4 => ?_) (fun k4 => ?_)
      · refine WL.p h Val.as ?_
        refine WL.nil ?_
        refine W.condT rfl ?_
        refine W.seq (W.region rfl ?_)
        refine WL.p h (Val.fa O79_2 rfl) ?_
        refine WL.p h (Val.ld 2 A9 rfl rfl rfl) ?_
        refine WL.p h (Val.fa O79_2 rfl) ?_
        refine WL.p h (Val.ld 3 A9 rfl rfl rfl) ?_
        refine WL.p h (Val.strLt rfl rfl) ?_
        refine WL.p h (Val.fa O79_2 rfl) ?_
        refine WL.p h (Val.ld 2 A9 rfl rfl rfl) ?_
        refine WL.p h (Val.fa O79_2 rfl) ?_
        refine WL.p h (Val.ld 3 A9 rfl rfl rfl) ?_
        refine WL.p h (Val.sEq rfl rfl) ?_
        refine WL.call C72 (args := [.bool (Op.bytesLess x.t.toList y.t.toList), .bool (decide (x.t = y.t))]) rfl ((l5Cmp_calls F _ h.sub _ _).mono ?_)
        rintro e w' ⟨rfl, hE⟩
        have h := h.call hE
        refine ⟨_, rfl, ?_⟩
        refine WL.p h Val.as ?_
        refine WL.nil ?_
        refine W.ret ?_
        refine fin1 rfl rfl (PI.of h.toExt ?_)
        rw [ordT, if_neg (by simpa [T.atom] using hk), if_neg (by omega), if_pos k4, cmpB]
        simp only [T.atom, toList_data, ba_list]
        by_cases heq : x.t = y.t
        · have hl := le_not_less y.t.data.toList y.t.data.toList
          simp only [beq_self_eq_true, Bool.or_true] at hl
          have : Op.bytesLess y.t.data.toList y.t.data.toList = false := by simpa using hl.symm
          simp [heq, this]
        · by_cases hlt : Op.bytesLess x.t.data.toList y.t.data.toList = true <;> simp [heq, hlt]
      refine WL.p h Val.as ?_
      refine WL.nil ?_
      refine W.condF rfl ?_
      refine W.skip ?_
      exact ⟨h, rfl, rfl, hk, by omega, k4⟩
    clear h
    obtain ⟨h, h2, h3, hk, hk23, hk4⟩ := hJ
    have hor : ordT (.node x ks) (.node y ls) = ordTs ks ls := by rw [ordT, if_neg (by simpa [T.atom] using hk), if_neg hk23, if_neg hk4]; rfl
    rw [hor]
    have hkw : ∀ k ∈ ks, T.Wf k := by cases ht; assumption
    have hlw : ∀ k ∈ ls, T.Wf k := by cases hu; assumption
    have hle : (T.node x ks).enc.length = (T.encs ks).length + 1 := by rw [T.enc]; simp
    have hle2 : (T.node y ls).enc.length = (T.encs ls).length + 1 := by rw [T.enc]; simp
    have hks := encs_ge ks
    have hls := encs_ge ls
    refine W.seq (W.region rfl ?_)
    refine WL.p h (Val.ldS 0 A42 T42 rfl h2 rfl) ?_
    refine WL.call C69 (args := [.agg #[a]]) rfl ((l5Kids_calls F w h.sub a _ hr hB).mono ?_)
    rintro e w' ⟨F1, p, us, ok, rfl, hE, hkids⟩
    rw [kidsP_enc _ ht] at hkids
    obtain ⟨rfl, hrow, hkr⟩ := hkids
    have h := h.call hE
    have hs := hs.mono hE.ext
    refine ⟨_, rfl, ?_⟩
    refine WL.p h Val.mv ?_
    refine WL.p h (Val.ext (v := p) rfl rfl) ?_
    refine WL.p h (Val.ext (v := .bool true) rfl rfl) ?_
    refine WL.p h Val.as ?_
    refine WL.p h Val.as ?_
    refine WL.nil ?_
    refine W.seq (W.region rfl ?_)
    refine WL.p h (Val.ldS 1 A42 T42 rfl h3 rfl) ?_
    refine WL.call C69 (args := [.agg #[b]]) rfl ((l5Kids_calls F1 _ h.sub b _ hs hB2).mono ?_)
    rintro e w' ⟨F2, q, vs, ok, rfl, hE2, hkids2⟩
    rw [kidsP_enc _ hu] at hkids2
    obtain ⟨rfl, hrow2, hkr2⟩ := hkids2
    have h := h.call hE2
    have hrow := hrow.mono hE2.ext
    refine ⟨_, rfl, ?_⟩
    refine WL.p h Val.mv ?_
    refine WL.p h (Val.ext (v := q) rfl rfl) ?_
    refine WL.p h (Val.ext (v := .bool true) rfl rfl) ?_
    refine WL.p h Val.as ?_
    refine WL.p h Val.as ?_
    refine WL.nil ?_
    simp only [T.kids] at hrow hrow2 hkr hkr2
    refine W.seq (W.seq (W.region rfl ?_))
    refine WL.p h Val.as ?_
    refine WL.nil ?_
    refine W.block ?_
    refine W.loop (ol w0 F F2 a b p q b2 b3 b5 b6 x y ks ls) ks.length ?_ (fun m R w hI => ?_)
    · exact ⟨0, by omega, h, rfl, rfl, rfl, by omega, fun j x y hj => by omega⟩
    clear h h2 h3
    obtain ⟨i, hm, h, h7, h9, h11, hil, hz⟩ := hI
    refine W.seq (W.seq (W.region rfl ?_))
    refine WL.p h Val.mv ?_
    refine WL.p h Val.mv ?_
    refine WL.p h (Val.len Try.underlying102 h7 hrow.val) ?_
    refine WL.p h (Val.lt h11 rfl) ?_
    refine WL.dec (fun c2 => ?_) (fun c2 => ?_)
    · refine WL.p h Val.mv ?_
      refine WL.p h Val.mv ?_
      refine WL.p h Val.mv ?_
      refine WL.p h (Val.len Try.underlying102 h9 hrow2.val) ?_
      refine WL.p h (Val.lt h11 rfl) ?_
      refine WL.dec (fun c3 => ?_) (fun c3 => ?_)
      · refine WL.p h (Val.pick rfl) ?_
        refine WL.nil ?_
        refine W.condT rfl ?_
        refine W.skip ?_
        obtain ⟨k, hki⟩ : ∃ k, ks[i]? = some k := ⟨_, List.getElem?_eq_getElem (by omega)⟩
        obtain ⟨l, hli⟩ : ∃ k, ls[i]? = some k := ⟨_, List.getElem?_eq_getElem (by omega)⟩
        obtain ⟨s, hs1, hs2⟩ := hkr.get _ _ hki
        obtain ⟨s', hs1', hs2'⟩ := hkr2.get _ _ hli
        have hkl := enc_le ks hki
        have hll := enc_le ls hli
        have hs2 := hs2.mono hE2.ext
        refine W.seq (W.block ?_)
        refine W.seq (W.draw (fun w => Hp w0 F F2 [.box b2 [a] 42, .box b3 [b] 42, .box b5 x.cells 79, .box b6 y.cells 79] w) [] 10 (by kernel_rfl) rfl rfl ?_)
        have hS := h.drewN 1
        refine WD.take 0 rfl (by kernel_rfl) (fun _ _ _ h => fin_panic h) hS Val.mv ?_
        refine WD.take 1 rfl (by kernel_rfl) (fun _ _ _ h => fin_panic h) hS Val.mv ?_
        refine WD.take 2 rfl (by kernel_rfl) (fun _ _ _ h => fin_panic h) hS (Val.ix Try.underlying102 T42 h7 h11 (hrow.slice (by omega)) (by omega)) ?_
        refine WD.take 3 rfl (by kernel_rfl) (fun _ _ _ h => fin_panic h) hS (Val.ldRS A42 T42 hrow rfl rfl (cs := [s]) (one_cell hs1)) ?_
        refine WD.take 4 rfl (by kernel_rfl) (fun _ _ _ h => fin_panic h) hS Val.mv ?_
        refine WD.take 5 rfl (by kernel_rfl) (fun _ _ _ h => fin_panic h) hS Val.mv ?_
        refine WD.take 6 rfl (by kernel_rfl) (fun _ _ _ h => fin_panic h) hS (Val.ix Try.underlying102 T42 h9 h11 (hrow2.slice (by omega)) (by omega)) ?_
        refine WD.take 7 rfl (by kernel_rfl) (fun _ _ _ h => fin_panic h) hS (Val.ldRS A42 T42 hrow2 rfl rfl (cs := [s']) (one_cell hs1')) ?_
        refine WD.one 8 rfl (by kernel_rfl) ?_
        refine WL.call C44 (args := [.agg #[s], .agg #[s']]) rfl ((ih k.enc.length (by omega) F2 _ hS.sub s s' k l (hkw k (List.mem_of_getElem? hki)) (hlw l (List.mem_of_getElem? hli)) hs2 hs2' (by omega) (by omega) rfl).mono ?_)
        rintro e w' ⟨rfl, hE⟩
        have hS := hS.call hE
        refine ⟨_, rfl, ?_⟩
        refine WL.nil ?_
        refine ⟨hS, ?_⟩
        refine WD.take 9 rfl (by kernel_rfl) (fun _ _ _ h => fin_panic h) hS Val.as ?_
        refine WD.nil (by kernel_rfl) ?_
        have h := hS
        refine W.seq (W.region rfl ?_)
        refine WL.p h Val.mv ?_
        refine WL.p h (Val.ne (a := ordT k l) rfl rfl) ?_
        refine WL.dec (fun c4 => ?_) (fun c4 => ?_)
        · refine WL.nil ?_
          refine W.condT rfl ?_
          refine W.seq (W.region rfl ?_)
          refine WL.p h Val.mv ?_
          refine WL.p h Val.as ?_
          refine WL.nil ?_
          refine W.ret ?_
          exact fin1 (v := .int .i64 (ordT k l)) rfl rfl (PI.of h.toExt (ordTs_hit ks ls i k l hki hli hz c4).symm)
        refine WL.nil ?_
        refine W.condF rfl ?_
        refine W.skip ?_
        refine W.region rfl ?_
        refine WL.p h Val.mv ?_
        refine WL.p h (Val.addi (c := ((i + 1 : Nat) : Int)) h11 rfl (by omega)) ?_
        refine WL.p h Val.as ?_
        refine WL.nil ?_
        refine ⟨m - 1, by omega, i + 1, by omega, h, h7, h9, rfl, by omega, fun j x y hj hx hy => ?_⟩
        by_cases hji : j = i
        · rw [hji] at hx hy
          rw [hki] at hx
          rw [hli] at hy
          cases hx
          cases hy
          exact Decidable.not_not.1 c4
        · exact hz j x y (by omega) hx hy
      · refine WL.p h (Val.pick rfl) ?_
        refine WL.nil ?_
        refine W.condF rfl ?_
        refine W.exit ?_
        refine W.seq (W.region rfl ?_)
        refine WL.p h Val.mv ?_
        refine WL.p h (Val.len Try.underlying102 h7 hrow.val) ?_
        refine WL.p h Val.mv ?_
        refine WL.p h (Val.len Try.underlying102 h9 hrow2.val) ?_
        refine WL.p h (Val.lt rfl rfl) ?_
        refine WL.p h Val.mv ?_
        refine WL.p h (Val.len Try.underlying102 h7 hrow.val) ?_
        refine WL.p h Val.mv ?_
        refine WL.p h (Val.len Try.underlying102 h9 hrow2.val) ?_
        refine WL.p h (Val.eq rfl rfl) ?_
        refine WL.call C72 (args := [.bool (decide ((ks.length : Int) < (ls.length : Int))), .bool (decide ((ks.length : Int) = (ls.length : Int)))]) rfl ((l5Cmp_calls F2 _ h.sub _ _).mono ?_)
        rintro e w' ⟨rfl, hE⟩
        have h := h.call hE
        refine ⟨_, rfl, ?_⟩
        refine WL.p h Val.as ?_
        refine WL.nil ?_
        refine W.ret ?_
        refine fin1 rfl rfl (PI.of h.toExt ?_)
        rw [ordTs_end ks ls (fun j x y hx hy => hz j x y (by have := (List.getElem?_eq_some_iff.1 hx).1; have := (List.getElem?_eq_some_iff.1 hy).1; omega) hx hy)]
        by_cases heq : ks.length = ls.length
        · simp [heq]
        · have heq' : ¬ (ks.length : Int) = (ls.length : Int) := by omega
          by_cases hlt : ks.length < ls.length
          · simp [heq, hlt, heq']
          · simp [heq, hlt, heq']
    · refine WL.p h Val.mv ?_
      refine WL.no rfl (WL.no rfl (WL.no rfl (WL.no rfl (?_))))
      refine WL.p h (Val.pick rfl) ?_
      refine WL.nil ?_
      refine W.condF rfl ?_
      refine W.exit ?_
      refine W.seq (W.region rfl ?_)
      refine WL.p h Val.mv ?_
      refine WL.p h (Val.len Try.underlying102 h7 hrow.val) ?_
      refine WL.p h Val.mv ?_
      refine WL.p h (Val.len Try.underlying102 h9 hrow2.val) ?_
      refine WL.p h (Val.lt rfl rfl) ?_
      refine WL.p h Val.mv ?_
      refine WL.p h (Val.len Try.underlying102 h7 hrow.val) ?_
      refine WL.p h Val.mv ?_
      refine WL.p h (Val.len Try.underlying102 h9 hrow2.val) ?_
      refine WL.p h (Val.eq rfl rfl) ?_
      refine WL.call C72 (args := [.bool (decide ((ks.length : Int) < (ls.length : Int))), .bool (decide ((ks.length : Int) = (ls.length : Int)))]) rfl ((l5Cmp_calls F2 _ h.sub _ _).mono ?_)
      rintro e w' ⟨rfl, hE⟩
      have h := h.call hE
      refine ⟨_, rfl, ?_⟩
      refine WL.p h Val.as ?_
      refine WL.nil ?_
      refine W.ret ?_
      refine fin1 rfl rfl (PI.of h.toExt ?_)
      rw [ordTs_end ks ls (fun j x y hx hy => hz j x y (by have := (List.getElem?_eq_some_iff.1 hx).1; have := (List.getElem?_eq_some_iff.1 hy).1; omega) hx hy)]
      by_cases heq : ks.length = ls.length
      · simp [heq]
      · have heq' : ¬ (ks.length : Int) = (ls.length : Int) := by omega
        by_cases hlt : ks.length < ls.length
        · simp [heq, hlt, heq']
        · simp [heq, hlt, heq']

theorem specOrder_calls (F : Fz) (w0 : World) (hF : Sub F (hv w0)) (a b : Value) (es fs : List At) (hr : FRow F a es.length 4 (rowA es)) (hs : FRow F b fs.length 4 (rowA fs)) (hB : es.length ≤ 1048576) (hB2 : fs.length ≤ 1048576) : Calls Try.prog 20 #[.agg #[a], .agg #[b]] w0 (PI F w0 (orderP es fs)) := by
  refine calls 16 Try.func20 rfl rfl rfl ?_
  have h := Hp.start hF
  refine W.seq (W.region rfl ?_)
  refine WL.box h rfl (fun b2 w h => ?_)
  refine WL.box h rfl (fun b3 w h => ?_)
  refine WL.p h Val.as ?_
  refine WL.nil ?_
  refine W.seq (W.seq (W.region rfl ?_))
  refine WL.p h (Val.ldS 0 A42 T42 rfl rfl rfl) ?_
  refine WL.call C16 (args := [.agg #[a]]) rfl ((specValidValue_calls F _ h.sub a es hr hB).mono ?_)
  rintro e w' ⟨v1, rfl, hv1, hE⟩
  have h := h.call hE
  refine ⟨_, rfl, ?_⟩
  refine WL.p h (Val.not rfl) ?_
  cases v1 with
  | false =>
    refine WL.p h Val.mv ?_
    refine WL.no rfl (WL.no rfl (WL.no rfl (?_)))
    refine WL.p h (Val.pick rfl) ?_
    refine WL.nil ?_
    refine W.condT rfl ?_
    refine W.seq (W.region rfl ?_)
    refine WL.p h Val.as ?_
    refine WL.nil ?_
    refine W.ret ?_
    refine fin1 (v := .int .i64 0) rfl rfl (PI.of h.toExt ?_)
    have hn : treeP es = none := by
      cases ht : treeP es with
      | none => rfl
      | some t => obtain ⟨_, _, _, it, _, hu⟩ := treeP_some ht; rw [hu] at hv1; simp at hv1
    rw [orderP, hn]
  | true =>
    refine WL.p h Val.mv ?_
    refine WL.p h (Val.ldS 1 A42 T42 rfl rfl rfl) ?_
    refine WL.call C16 (args := [.agg #[b]]) rfl ((specValidValue_calls F _ h.sub b fs hs hB2).mono ?_)
    rintro e w' ⟨v2, rfl, hv2, hE⟩
    have h := h.call hE
    refine ⟨_, rfl, ?_⟩
    refine WL.p h (Val.not rfl) ?_
    cases v2 with
    | false =>
      refine WL.p h (Val.pick rfl) ?_
      refine WL.nil ?_
      refine W.condT rfl ?_
      refine W.seq (W.region rfl ?_)
      refine WL.p h Val.as ?_
      refine WL.nil ?_
      refine W.ret ?_
      refine fin1 (v := .int .i64 0) rfl rfl (PI.of h.toExt ?_)
      have hn : treeP fs = none := by
        cases ht : treeP fs with
        | none => rfl
        | some t => obtain ⟨_, _, _, it, _, hu⟩ := treeP_some ht; rw [hu] at hv2; simp at hv2
      rw [orderP, hn]
      cases treeP es <;> rfl
    | true =>
      refine WL.p h (Val.pick rfl) ?_
      refine WL.nil ?_
      refine W.condF rfl ?_
      refine W.skip ?_
      obtain ⟨t, ht⟩ : ∃ t, treeP es = some t := by
        cases ht : treeP es with
        | none => exact absurd (treeP_none ht) (hv1.1 rfl)
        | some t => exact ⟨t, rfl⟩
      obtain ⟨u, hu⟩ : ∃ t, treeP fs = some t := by
        cases ht : treeP fs with
        | none => exact absurd (treeP_none ht) (hv2.1 rfl)
        | some t => exact ⟨t, rfl⟩
      obtain ⟨he, hw, _⟩ := treeP_some ht
      obtain ⟨he2, hw2, _⟩ := treeP_some hu
      have hor : orderP es fs = ordT t u := by rw [orderP, ht, hu]
      rw [hor]
      subst he he2
      refine W.seq (W.region rfl ?_)
      refine WL.p h (Val.ldS 0 A42 T42 rfl rfl rfl) ?_
      refine WL.p h (Val.ldS 1 A42 T42 rfl rfl rfl) ?_
      refine WL.call C44 (args := [.agg #[a], .agg #[b]]) rfl ((l5Order_calls _ F _ h.sub a b t u hw hw2 hr hs hB hB2 rfl).mono ?_)
      rintro e w' ⟨rfl, hE⟩
      have h := h.call hE
      refine ⟨_, rfl, ?_⟩
      refine WL.p h Val.as ?_
      refine WL.nil ?_
      refine W.ret ?_
      exact fin1 rfl rfl (PI.mk h.toExt)
end Go.Proofs.Ytmiihhbgfijcmaa.K

