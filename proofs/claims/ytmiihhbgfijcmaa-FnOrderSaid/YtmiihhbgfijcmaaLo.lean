/- FnOrder: the order is total; wValue; the walk of the law. -/
import Derived.Test.YtmiihhbgfijcmaaDp
import Derived.Test.YtmiihhbgfijcmaaOq
namespace Go.Proofs.Ytmiihhbgfijcmaa.K
open Go Go.RowKit
set_option linter.unusedVariables false
set_option linter.unusedSimpArgs false
set_option maxRecDepth 20000
theorem C27 : CF Try.prog 27 := ⟨_, Try.func27, rfl, rfl⟩
theorem cb_bd (a b : List UInt8) : -1 ≤ Lib.compareBytes a b ∧ Lib.compareBytes a b ≤ 1 := by
  rw [cmpB]; split
  · omega
  · split <;> omega
mutual
theorem ordT_bd : ∀ (t u : T), -1 ≤ ordT t u ∧ ordT t u ≤ 1
  | .node a ks, .node b ls => by
    unfold ordT
    split
    · split <;> omega
    · split
      · unfold cmpI; split
        · omega
        · split <;> omega
      · split
        · exact cb_bd _ _
        · exact ordTs_bd ks _
theorem ordTs_bd : ∀ (ks ls : List T), -1 ≤ ordTs ks ls ∧ ordTs ks ls ≤ 1
  | [], [] => by simp [ordTs]
  | [], _ :: _ => by simp [ordTs]
  | _ :: _, [] => by simp [ordTs]
  | x :: xs, y :: ys => by
    unfold ordTs
    split
    · exact ordT_bd x y
    · exact ordTs_bd xs ys
end
theorem orderP_none {es fs : List At} (h : unpackP es = none ∨ unpackP fs = none) : orderP es fs = 0 := by
  unfold orderP
  cases h1 : treeP es with
  | none => simp
  | some t =>
    cases h2 : treeP fs with
    | none => simp
    | some u =>
      obtain ⟨_, _, _, _, _, e1⟩ := treeP_some h1
      obtain ⟨_, _, _, _, _, e2⟩ := treeP_some h2
      rcases h with h | h
      · rw [h] at e1; cases e1
      · rw [h] at e2; cases e2
theorem treeP_valid {es : List At} (h : unpackP es ≠ none) : ∃ t, treeP es = some t := by
  cases h1 : treeP es with
  | none => exact absurd (treeP_none h1) h
  | some t => exact ⟨t, rfl⟩
theorem orderP_anti (es fs : List At) : orderP fs es = - orderP es fs := by
  unfold orderP
  cases treeP es <;> cases treeP fs <;> simp
  exact ordT_anti _ _
theorem orderP_bd (es fs : List At) : -1 ≤ orderP es fs ∧ orderP es fs ≤ 1 := by
  unfold orderP
  cases treeP es <;> cases treeP fs <;> simp
  exact ordT_bd _ _
theorem orderP_zero {es fs : List At} (h1 : unpackP es ≠ none) (h2 : unpackP fs ≠ none) : orderP es fs = 0 ↔ es = fs := by
  obtain ⟨t, ht⟩ := treeP_valid h1
  obtain ⟨u, hu⟩ := treeP_valid h2
  have e1 := treeP_some ht
  have e2 := treeP_some hu
  have e : orderP es fs = ordT t u := by simp [orderP, ht, hu]
  rw [e]
  constructor
  · intro h
    rw [e1.1, e2.1, ordT_zero t u 0 0 e1.2.1 e2.2.1 (treeP_ok ht) (treeP_ok hu) h]
  · rintro rfl
    rw [ht] at hu
    cases hu
    exact ordT_self t
theorem orderP_le {es fs gs : List At} (h1 : unpackP es ≠ none) (h2 : unpackP fs ≠ none) (h3 : unpackP gs ≠ none) (a : orderP es fs ≤ 0) (b : orderP fs gs ≤ 0) : orderP es gs ≤ 0 := by
  obtain ⟨t, ht⟩ := treeP_valid h1
  obtain ⟨u, hu⟩ := treeP_valid h2
  obtain ⟨x, hx⟩ := treeP_valid h3
  have e1 := treeP_some ht
  have e2 := treeP_some hu
  have e3 := treeP_some hx
  simp only [orderP, ht, hu, hx] at a b ⊢
  exact ordT_le t u x 0 0 0 e1.2.1 e2.2.1 e3.2.1 (treeP_ok ht) (treeP_ok hu) (treeP_ok hx) a b
theorem orderP_ge {es fs gs : List At} (h1 : unpackP es ≠ none) (h2 : unpackP fs ≠ none) (h3 : unpackP gs ≠ none) (a : 0 ≤ orderP es fs) (b : 0 ≤ orderP fs gs) : 0 ≤ orderP es gs := by
  have e1 := orderP_anti es fs
  have e2 := orderP_anti fs gs
  have e3 := orderP_anti es gs
  have := orderP_le h3 h2 h1 (by omega) (by omega)
  omega

def wvI (w0 : World) (F : Fz) (v u : Value) (b2 b3 : Nat) (es fs : List At) (m : Nat) (R : Regs) (w : World) : Prop :=
  ∃ (i : Nat), m + i = es.length ∧ Hp w0 F F [.box b2 [v] 42, .box b3 [u] 42] w ∧ es.take i = fs.take i ∧ R 2 = pt b2 ∧ R 3 = pt b3 ∧ R 5 = .int .i64 (i : Int)
theorem wValue_calls (F : Fz) (w0 : World) (hF : Sub F (hv w0)) (v u : Value) (es fs : List At) (hr : FRow F v es.length 4 (rowA es)) (hs : FRow F u fs.length 4 (rowA fs)) :
    Calls Try.prog 27 #[.agg #[v], .agg #[u]] w0 fun e w' => e = .returned (.bool (decide (es = fs))) ∧ Ext F w0 F w' := by
  refine calls 31 Try.func27 rfl rfl rfl ?_
  have h := Hp.start hF
  refine W.seq (W.region rfl ?_)
  refine WL.box h rfl (fun b2 w h => ?_)
  refine WL.box h rfl (fun b3 w h => ?_)
  refine WL.p h Val.as ?_
  refine WL.nil ?_
  refine W.seq (W.seq (W.region rfl ?_))
  refine WL.p h (Val.fa O42_0 rfl) ?_
  refine WL.p h (Val.ld 0 A40 rfl rfl rfl) ?_
  refine WL.p h (Val.len Try.underlying40 rfl hr.val) ?_
  refine WL.p h (Val.fa O42_0 rfl) ?_
  refine WL.p h (Val.ld 1 A40 rfl rfl rfl) ?_
  refine WL.p h (Val.len Try.underlying40 rfl hs.val) ?_
  refine WL.p h (Val.ne (a := (es.length : Int)) (b := (fs.length : Int)) rfl rfl) ?_
  refine WL.dec (fun c1 => ?_) (fun c1 => ?_)
  · refine WL.nil ?_
    refine W.condT rfl ?_
    refine W.seq (W.region rfl ?_)
    refine WL.p h Val.as ?_
    refine WL.nil ?_
    refine W.ret ?_
    have hne : es ≠ fs := fun e => c1 (by rw [e])
    exact fin1 (v := .bool false) rfl rfl ⟨by simp [hne], h.toExt⟩
  refine WL.nil ?_
  refine W.condF rfl ?_
  refine W.skip ?_
  have hlen : es.length = fs.length := by omega
  refine W.seq (W.seq (W.region rfl ?_))
  refine WL.p h Val.as ?_
  refine WL.nil ?_
  refine W.block ?_
  refine W.loop (wvI w0 F v u b2 b3 es fs) es.length ⟨0, by omega, h, by simp, rfl, rfl, rfl⟩ (fun m R w hI => ?_)
  clear h
  obtain ⟨i, hm, h, heq, h2, h3, h5⟩ := hI
  have hmx := hr.max
  refine W.seq (W.seq (W.region rfl ?_))
  refine WL.p h Val.mv ?_
  refine WL.p h (Val.fa O42_0 h2) ?_
  refine WL.p h (Val.ld 0 A40 rfl rfl rfl) ?_
  refine WL.p h (Val.len Try.underlying40 rfl hr.val) ?_
  refine WL.p h (Val.lt h5 rfl) ?_
  refine WL.dec (fun c2 => ?_) (fun c2 => ?_)
  · obtain ⟨a, ha⟩ : ∃ a, es[i]? = some a := ⟨_, List.getElem?_eq_getElem (by omega)⟩
    obtain ⟨b, hb⟩ : ∃ b, fs[i]? = some b := ⟨_, List.getElem?_eq_getElem (by omega)⟩
    refine WL.nil ?_
    refine W.condT rfl ?_
    refine W.skip ?_
    refine W.seq (W.block ?_)
    refine W.seq (W.draw (fun w => Hp w0 F F [.box b2 [v] 42, .box b3 [u] 42] w) [] 11 (by kernel_rfl) rfl rfl ?_)
    have hS := h.drewN 1
    refine WD.take 0 rfl (by kernel_rfl) (fun _ _ _ h => fin_panic h) hS (Val.fa O42_0 h2) ?_
    refine WD.take 1 rfl (by kernel_rfl) (fun _ _ _ h => fin_panic h) hS (Val.ld 0 A40 rfl rfl rfl) ?_
    refine WD.take 2 rfl (by kernel_rfl) (fun _ _ _ h => fin_panic h) hS Val.mv ?_
    refine WD.take 3 rfl (by kernel_rfl) (fun _ _ _ h => fin_panic h) hS (Val.ix (i := i) Try.underlying40 T79 rfl h5 (hr.slice (by omega)) (by omega)) ?_
    refine WD.take 4 rfl (by kernel_rfl) (fun _ _ _ h => fin_panic h) hS (Val.ldRS A79 T79 hr rfl (cs := a.cells) rfl (fun j x hx => flat_get At.cells At.cells_len es i j a x ha hx)) ?_
    refine WD.take 5 rfl (by kernel_rfl) (fun _ _ _ h => fin_panic h) hS (Val.fa O42_0 h3) ?_
    refine WD.take 6 rfl (by kernel_rfl) (fun _ _ _ h => fin_panic h) hS (Val.ld 1 A40 rfl rfl rfl) ?_
    refine WD.take 7 rfl (by kernel_rfl) (fun _ _ _ h => fin_panic h) hS Val.mv ?_
    refine WD.take 8 rfl (by kernel_rfl) (fun _ _ _ h => fin_panic h) hS (Val.ix (i := i) Try.underlying40 T79 rfl h5 (hs.slice (by omega)) (by omega)) ?_
    refine WD.take 9 rfl (by kernel_rfl) (fun _ _ _ h => fin_panic h) hS (Val.ldRS A79 T79 hs rfl (cs := b.cells) rfl (fun j x hx => flat_get At.cells At.cells_len fs i j b x hb hx)) ?_
    refine WD.take 10 rfl (by kernel_rfl) (fun _ _ _ h => fin_panic h) hS (Val.atNe (a := a) (b := b) rfl rfl) ?_
    refine WD.dec (fun c3 => ?_) (fun c3 => ?_)
    · refine WD.nil (by kernel_rfl) ?_
      have h := hS
      refine W.condT rfl ?_
      refine W.seq (W.region rfl ?_)
      refine WL.p h Val.as ?_
      refine WL.nil ?_
      refine W.ret ?_
      have hne : es ≠ fs := fun e => c3 (by rw [e, hb] at ha; exact (Option.some.inj ha).symm)
      exact fin1 (v := .bool false) rfl rfl ⟨by simp [hne], hS.toExt⟩
    · refine WD.nil (by kernel_rfl) ?_
      have h := hS
      refine W.condF rfl ?_
      refine W.skip ?_
      have hab : a = b := by simpa using c3
      refine W.region rfl ?_
      refine WL.p h Val.mv ?_
      refine WL.p h (Val.addi (c := ((i + 1 : Nat) : Int)) h5 rfl (by omega)) ?_
      refine WL.p h Val.as ?_
      refine WL.nil ?_
      refine ⟨m - 1, by omega, i + 1, by omega, hS, ?_, h2, h3, rfl⟩
      obtain ⟨l1, e1⟩ := List.getElem?_eq_some_iff.1 ha
      obtain ⟨l2, e2⟩ := List.getElem?_eq_some_iff.1 hb
      rw [List.take_succ_eq_append_getElem l1, List.take_succ_eq_append_getElem l2, heq, e1, e2, hab]
  · refine WL.nil ?_
    refine W.condF rfl ?_
    refine W.exit ?_
    have hi : i = es.length := by omega
    have he : es = fs := by
      rw [hi, List.take_length, hlen, List.take_length] at heq
      exact heq
    refine W.seq (W.region rfl ?_)
    refine WL.p h Val.as ?_
    refine WL.nil ?_
    refine W.ret ?_
    exact fin1 (v := .bool true) rfl rfl ⟨by simp [he], h.toExt⟩

set_option maxHeartbeats 8000000 in
theorem lawFnOrder_calls (F : Fz) (w0 : World) (hF : Sub F (hv w0)) (v1 v2 : Value) (bs1 bs2 : List UInt8) (hr1 : FRow F v1 bs1.length 1 (rowB bs1)) (hr2 : FRow F v2 bs2.length 1 (rowB bs2)) :
    Calls Try.prog 8 #[v1, v2] w0 fun e w' => e = .returned (.bool true) ∧ Below w0.heap.size w0 w' := by
  refine calls 100 Try.func8 rfl rfl rfl ?_
  have h := Hp.start hF
  have hfin : ∀ {w : World} {F' : Fz} {L : List Ch}, Hp w0 F F' L w → (fun e w' => e = Ending.returned (.bool true) ∧ Below w0.heap.size w0 w') (.returned (.bool true)) w := fun h => ⟨rfl, h.below⟩
  refine W.seq (W.region rfl ?_)
  refine WL.p h Val.as ?_
  refine WL.nil ?_
  refine W.cut (fun R w => R 0 = v1 ∧ R 1 = v2 ∧ Hp w0 F F [] w) ?_ ?_
  · refine W.seq (W.region rfl ?_)
    refine WL.p h Val.mv ?_
    refine WL.p h (Val.len Try.underlying52 rfl hr1.val) ?_
    refine WL.p h (Val.gt rfl rfl) ?_
    refine WL.dec (fun d2 => ?_) (fun d2 => ?_)
    · refine WL.p h Val.mv ?_
      refine WL.no rfl (?_)
      refine WL.no rfl (?_)
      refine WL.no rfl (?_)
      refine WL.p h (Val.pick rfl) ?_
      refine WL.nil ?_
      refine W.condT rfl ?_
      refine W.seq (W.region rfl ?_)
      refine WL.p h Val.as ?_
      refine WL.nil ?_
      refine W.ret ?_
      exact fin1 (v := .bool true) rfl rfl (hfin h)
    · refine WL.p h Val.mv ?_
      refine WL.p h Val.mv ?_
      refine WL.p h (Val.len Try.underlying52 rfl hr2.val) ?_
      refine WL.p h (Val.gt rfl rfl) ?_
      refine WL.dec (fun d6 => ?_) (fun d6 => ?_)
      · refine WL.p h (Val.pick rfl) ?_
        refine WL.nil ?_
        refine W.condT rfl ?_
        refine W.seq (W.region rfl ?_)
        refine WL.p h Val.as ?_
        refine WL.nil ?_
        refine W.ret ?_
        exact fin1 (v := .bool true) rfl rfl (hfin h)
      · refine WL.p h (Val.pick rfl) ?_
        refine WL.nil ?_
        refine W.condF rfl ?_
        refine W.skip ?_
        exact ⟨rfl, rfl, h⟩
  clear h
  rintro R w ⟨h0, h1, h⟩
  refine W.seq (W.region rfl ?_)
  refine WL.p h Val.mv ?_
  refine WL.call C26 (args := [v1]) (congrArg (fun x => [x]) h0) ((DrawOrder_calls F w h.sub v1 bs1 hr1).mono ?_)
  rintro e w' ⟨F1, sa, sb, ea, eb, rfl, hE1, hra, hrb, hla, hlb⟩
  have h := h.call hE1
  refine ⟨_, rfl, ?_⟩
  refine WL.p h Val.mv ?_
  refine WL.p h (Val.ext (v := .agg #[sa]) rfl rfl) ?_
  refine WL.p h (Val.ext (v := .agg #[sb]) rfl rfl) ?_
  refine WL.alloc h T42 (fun b5 w h => ?_)
  refine WL.alloc h T42 (fun b6 w h => ?_)
  refine WL.stS 0 h rfl T42 rfl (vs := [sa]) rfl (one1 hra.one) rfl rfl (fun w h => ?_)
  refine WL.stS 1 h rfl T42 rfl (vs := [sb]) rfl (one1 hrb.one) rfl rfl (fun w h => ?_)
  refine WL.nil ?_
  refine W.seq (W.region rfl ?_)
  refine WL.p h Val.mv ?_
  refine WL.call C26 (args := [v2]) (congrArg (fun x => [x]) h1) ((DrawOrder_calls F1 w h.sub v2 bs2 (hr2.mono hE1.ext)).mono ?_)
  rintro e w' ⟨F2, sc, sd, ec, ed, rfl, hE2, hrc, hrd, hlc, hld⟩
  have h := h.call hE2
  refine ⟨_, rfl, ?_⟩
  have hra := hra.mono hE2.ext
  have hrb := hrb.mono hE2.ext
  refine WL.p h Val.mv ?_
  refine WL.p h (Val.ext (v := .agg #[sc]) rfl rfl) ?_
  refine WL.p h (Val.ext (v := .agg #[sd]) rfl rfl) ?_
  refine WL.alloc h T42 (fun b7 w h => ?_)
  refine WL.alloc h T42 (fun b8 w h => ?_)
  refine WL.stS 2 h rfl T42 rfl (vs := [sc]) rfl (one1 hrc.one) rfl rfl (fun w h => ?_)
  refine WL.stS 3 h rfl T42 rfl (vs := [sd]) rfl (one1 hrd.one) rfl rfl (fun w h => ?_)
  refine WL.nil ?_
  have hcall : ∀ (s t : Value) (es fs : List At), FRow F2 s es.length 4 (rowA es) → FRow F2 t fs.length 4 (rowA fs) → ∀ w, Sub F2 (hv w) → Calls Try.prog 21 #[.agg #[s], .agg #[t]] w (PI F2 w (orderP es fs)) := fun s t es fs h1 h2 w hw => implOrder_calls F2 w hw s t es fs h1 h2
  have hval : ∀ (s : Value) (es : List At), FRow F2 s es.length 4 (rowA es) → es.length ≤ 1200 → ∀ w, Sub F2 (hv w) → Calls Try.prog 16 #[.agg #[s]] w fun e w' => e = .returned (.bool (decide (unpackP es ≠ none))) ∧ Ext F2 w F2 w' := fun s es h1 h2 w hw => (specValidValue_calls F2 w hw s es h1 (by omega)).mono (by
    rintro e w' ⟨b, rfl, hb, hE⟩
    refine ⟨?_, hE⟩
    cases b
    · have : ¬ (unpackP es ≠ none) := fun e => by simpa using hb.2 e
      rw [decide_eq_false this]
    · have := hb.1 rfl
      rw [decide_eq_true this])
  obtain ⟨x, hx⟩ : ∃ x, x = orderP ea eb := ⟨_, rfl⟩
  obtain ⟨y, hy⟩ : ∃ x, x = orderP eb ec := ⟨_, rfl⟩
  obtain ⟨z, hz⟩ : ∃ x, x = orderP ea ec := ⟨_, rfl⟩
  have hxb := orderP_bd ea eb
  have hxa := orderP_anti ea eb
  rw [← hx] at hxb hxa
  obtain ⟨x', hx'⟩ : ∃ x', x' = orderP eb ea := ⟨_, rfl⟩
  rw [← hx'] at hxa
  refine W.seq (W.region rfl ?_)
  refine WL.p h (Val.ldS 0 A42 T42 rfl rfl rfl) ?_
  refine WL.p h (Val.ldS 1 A42 T42 rfl rfl rfl) ?_
  refine WL.call C21 (args := [.agg #[sa], .agg #[sb]]) rfl ((hcall sa sb ea eb hra hrb w h.sub).mono ?_)
  rintro e w' ⟨rfl, hE⟩
  have h := h.call hE
  refine ⟨.int .i64 x, by rw [hx], ?_⟩
  refine WL.p h Val.as ?_
  refine WL.nil ?_
  refine W.seq (W.seq (W.region rfl ?_))
  refine WL.p h Val.mv ?_
  refine WL.p h (Val.ldS 0 A42 T42 rfl rfl rfl) ?_
  refine WL.p h (Val.ldS 1 A42 T42 rfl rfl rfl) ?_
  refine WL.call C20 (args := [.agg #[sa], .agg #[sb]]) rfl ((specOrder_calls F2 _ h.sub sa sb ea eb hra hrb (by omega) (by omega)).mono ?_)
  rintro e w' ⟨rfl, hE⟩
  have h := h.call hE
  refine ⟨.int .i64 x, by rw [hx], ?_⟩
  refine WL.p h (Val.ne (a := x) (b := x) rfl rfl) ?_
  refine WL.dec (fun c1 => ?_) (fun c1 => ?_)
  · exact absurd rfl c1
  refine WL.p h Val.mv ?_
  refine WL.p h (Val.ldS 1 A42 T42 rfl rfl rfl) ?_
  refine WL.p h (Val.ldS 0 A42 T42 rfl rfl rfl) ?_
  refine WL.call C21 (args := [.agg #[sb], .agg #[sa]]) rfl ((hcall sb sa eb ea hrb hra _ h.sub).mono ?_)
  rintro e w' ⟨rfl, hE⟩
  have h := h.call hE
  refine ⟨.int .i64 x', by rw [hx'], ?_⟩
  refine WL.p h Val.mv ?_
  refine WL.p h (Val.neg (b := x) rfl) ?_
  refine WL.p h (Val.ne (a := x') (b := IntKind.i64.wrap (-x)) rfl rfl) ?_
  refine WL.dec (fun c2 => ?_) (fun c2 => ?_)
  · exact absurd (by rw [wrap_in (by omega)]; exact hxa) c2
  refine WL.p h (Val.pick rfl) ?_
  refine WL.nil ?_
  refine W.condF rfl ?_
  refine W.skip ?_
  refine W.cut (fun R w => Hp w0 F F2 [.box b5 [sa] 42, .box b6 [sb] 42, .box b7 [sc] 42, .box b8 [sd] 42] w ∧ unpackP ea ≠ none ∧ unpackP eb ≠ none ∧ unpackP ec ≠ none ∧ R 5 = pt b5 ∧ R 6 = pt b6 ∧ R 7 = pt b7 ∧ R 9 = .int .i64 x) ?_ ?_
  · refine W.cut (fun R w => ∃ t : Bool, Hp w0 F F2 [.box b5 [sa] 42, .box b6 [sb] 42, .box b7 [sc] 42, .box b8 [sd] 42] w ∧ R 5 = pt b5 ∧ R 6 = pt b6 ∧ R 7 = pt b7 ∧ R 9 = .int .i64 x ∧ R 58 = .bool t ∧ (t = true ↔ (unpackP ea = none ∨ unpackP eb = none ∨ unpackP ec = none))) ?_ ?_
    · refine W.region rfl ?_
      refine WL.p h (Val.ldS 0 A42 T42 rfl rfl rfl) ?_
      refine WL.call C16 (args := [.agg #[sa]]) rfl ((hval sa ea hra hla _ h.sub).mono ?_)
      rintro e w' ⟨rfl, hE⟩
      have h := h.call hE
      refine ⟨_, rfl, ?_⟩
      by_cases ha : unpackP ea = none
      · refine WL.p h (Val.not (b := false) (show Value.bool (decide _) = _ by simp [ha])) ?_
        refine WL.p h Val.mv ?_
        refine WL.no rfl (WL.no rfl (WL.no rfl (?_)))
        refine WL.p h (Val.pick rfl) ?_
        refine WL.p h Val.mv ?_
        refine WL.no rfl (WL.no rfl (WL.no rfl (?_)))
        refine WL.p h (Val.pick rfl) ?_
        refine WL.nil ?_
        exact ⟨true, h, rfl, rfl, rfl, rfl, rfl, by simp [ha]⟩
      refine WL.p h (Val.not (b := true) (show Value.bool (decide _) = _ by simp [ha])) ?_
      refine WL.p h Val.mv ?_
      refine WL.p h (Val.ldS 1 A42 T42 rfl rfl rfl) ?_
      refine WL.call C16 (args := [.agg #[sb]]) rfl ((hval sb eb hrb hlb _ h.sub).mono ?_)
      rintro e w' ⟨rfl, hE⟩
      have h := h.call hE
      refine ⟨_, rfl, ?_⟩
      by_cases hb : unpackP eb = none
      · refine WL.p h (Val.not (b := false) (show Value.bool (decide _) = _ by simp [hb])) ?_
        refine WL.p h (Val.pick rfl) ?_
        refine WL.p h Val.mv ?_
        refine WL.no rfl (WL.no rfl (WL.no rfl (?_)))
        refine WL.p h (Val.pick rfl) ?_
        refine WL.nil ?_
        exact ⟨true, h, rfl, rfl, rfl, rfl, rfl, by simp [hb]⟩
      refine WL.p h (Val.not (b := true) (show Value.bool (decide _) = _ by simp [hb])) ?_
      refine WL.p h (Val.pick rfl) ?_
      refine WL.p h Val.mv ?_
      refine WL.p h (Val.ldS 2 A42 T42 rfl rfl rfl) ?_
      refine WL.call C16 (args := [.agg #[sc]]) rfl ((hval sc ec hrc hlc _ h.sub).mono ?_)
      rintro e w' ⟨rfl, hE⟩
      have h := h.call hE
      refine ⟨_, rfl, ?_⟩
      by_cases hc : unpackP ec = none
      · refine WL.p h (Val.not (b := false) (show Value.bool (decide _) = _ by simp [hc])) ?_
        refine WL.p h (Val.pick rfl) ?_
        refine WL.nil ?_
        exact ⟨true, h, rfl, rfl, rfl, rfl, rfl, by simp [hc]⟩
      refine WL.p h (Val.not (b := true) (show Value.bool (decide _) = _ by simp [hc])) ?_
      refine WL.p h (Val.pick rfl) ?_
      refine WL.nil ?_
      exact ⟨false, h, rfl, rfl, rfl, rfl, rfl, by simp [ha, hb, hc]⟩
    clear h
    rintro R w ⟨t, h, h5, h6, h7, h9, h58, ht⟩
    cases t with
    | true =>
      have hbad := ht.1 rfl
      refine W.condT h58 ?_
      refine W.seq (W.region rfl ?_)
      refine WL.p h (Val.ldS 2 A42 T42 rfl h7 rfl) ?_
      refine WL.call C16 (args := [.agg #[sc]]) rfl ((hval sc ec hrc hlc _ h.sub).mono ?_)
      rintro e w' ⟨rfl, hE⟩
      have h := h.call hE
      refine ⟨_, rfl, ?_⟩
      by_cases hc : unpackP ec = none
      · refine WL.p h (Val.not (b := false) (show Value.bool (decide _) = _ by simp [hc])) ?_
        refine WL.p h Val.mv ?_
        refine WL.no rfl (WL.no rfl (?_))
        refine WL.p h (Val.pick rfl) ?_
        refine WL.p h Val.as ?_
        refine WL.nil ?_
        refine W.ret ?_
        exact fin1 (v := .bool true) rfl rfl (hfin h)
      · have hx0 : x = 0 := by
          rw [hx]; exact orderP_none (by rcases hbad with e | e | e; exact .inl e; exact .inr e; exact absurd e hc)
        refine WL.p h (Val.not (b := true) (show Value.bool (decide _) = _ by simp [hc])) ?_
        refine WL.p h Val.mv ?_
        refine WL.p h Val.mv ?_
        refine WL.p h (Val.eq (a := x) (b := 0) h9 rfl) ?_
        refine WL.dec (fun c => ?_) (fun c => ?_)
        · refine WL.p h (Val.pick rfl) ?_
          refine WL.p h Val.as ?_
          refine WL.nil ?_
          refine W.ret ?_
          exact fin1 (v := .bool true) rfl rfl (hfin h)
        · exact absurd hx0 c
    | false =>
      refine W.condF h58 ?_
      refine W.skip ?_
      have hg : ¬ (unpackP ea = none ∨ unpackP eb = none ∨ unpackP ec = none) := fun e => by cases ht.2 e
      exact ⟨h, fun e => hg (.inl e), fun e => hg (.inr (.inl e)), fun e => hg (.inr (.inr e)), h5, h6, h7, h9⟩
  clear h
  rintro R w ⟨h, ha, hb, hc, h5, h6, h7, h9⟩
  have hz0 := orderP_zero ha hb
  rw [← hx] at hz0
  have hle : x ≤ 0 → y ≤ 0 → z ≤ 0 := by rw [hx, hy, hz]; exact orderP_le ha hb hc
  have hge : 0 ≤ x → 0 ≤ y → 0 ≤ z := by rw [hx, hy, hz]; exact orderP_ge ha hb hc
  refine W.seq (W.seq (W.region rfl ?_))
  refine WL.p h Val.mv ?_
  refine WL.p h (Val.eq (a := x) (b := 0) h9 rfl) ?_
  refine WL.p h (Val.ldS 0 A42 T42 rfl h5 rfl) ?_
  refine WL.p h (Val.ldS 1 A42 T42 rfl h6 rfl) ?_
  refine WL.call C27 (args := [.agg #[sa], .agg #[sb]]) rfl ((wValue_calls F2 _ h.sub sa sb ea eb hra hrb).mono ?_)
  rintro e w' ⟨rfl, hE⟩
  have h := h.call hE
  refine ⟨_, rfl, ?_⟩
  refine WL.p h (Val.boolNe Try.underlying4 rfl rfl) ?_
  refine WL.nil ?_
  refine W.condF (show Value.bool (decide (x = 0) != decide (ea = eb)) = _ by by_cases e : x = 0 <;> simp [e, ← hz0]) ?_
  refine W.skip ?_
  refine W.seq (W.region rfl ?_)
  refine WL.p h (Val.ldS 1 A42 T42 rfl h6 rfl) ?_
  refine WL.p h (Val.ldS 2 A42 T42 rfl h7 rfl) ?_
  refine WL.call C21 (args := [.agg #[sb], .agg #[sc]]) rfl ((hcall sb sc eb ec hrb hrc _ h.sub).mono ?_)
  rintro e w' ⟨rfl, hE⟩
  have h := h.call hE
  refine ⟨.int .i64 y, by rw [hy], ?_⟩
  refine WL.p h Val.as ?_
  refine WL.nil ?_
  refine W.seq (W.region rfl ?_)
  refine WL.p h (Val.ldS 0 A42 T42 rfl h5 rfl) ?_
  refine WL.p h (Val.ldS 2 A42 T42 rfl h7 rfl) ?_
  refine WL.call C21 (args := [.agg #[sa], .agg #[sc]]) rfl ((hcall sa sc ea ec hra hrc _ h.sub).mono ?_)
  rintro e w' ⟨rfl, hE⟩
  have h := h.call hE
  refine ⟨.int .i64 z, by rw [hz], ?_⟩
  refine WL.p h Val.as ?_
  refine WL.nil ?_
  refine W.seq (W.seq (W.region rfl ?_))
  refine WL.p h Val.mv ?_
  refine WL.p h (Val.le (a := x) (b := 0) h9 rfl) ?_
  refine WL.dec (fun d1 => ?_) (fun d1 => ?_)
  · refine WL.p h Val.mv ?_
    refine WL.p h Val.mv ?_
    refine WL.p h (Val.le rfl rfl) ?_
    refine WL.dec (fun d4 => ?_) (fun d4 => ?_)
    · refine WL.p h (Val.pick rfl) ?_
      refine WL.p h Val.mv ?_
      refine WL.p h Val.mv ?_
      refine WL.p h (Val.gt rfl rfl) ?_
      refine WL.dec (fun d8 => ?_) (fun d8 => ?_)
      · refine WL.p h (Val.pick rfl) ?_
        refine WL.p h Val.mv ?_
        refine WL.no rfl (?_)
        refine WL.no rfl (?_)
        refine WL.no rfl (?_)
        refine WL.no rfl (?_)
        refine WL.no rfl (?_)
        refine WL.no rfl (?_)
        refine WL.no rfl (?_)
        refine WL.no rfl (?_)
        refine WL.no rfl (?_)
        refine WL.no rfl (?_)
        refine WL.p h (Val.pick rfl) ?_
        refine WL.nil ?_
        exfalso; omega
      · refine WL.p h (Val.pick rfl) ?_
        refine WL.p h Val.mv ?_
        refine WL.p h Val.mv ?_
        refine WL.p h (Val.ge (a := x) (b := 0) h9 rfl) ?_
        refine WL.dec (fun d12 => ?_) (fun d12 => ?_)
        · refine WL.p h Val.mv ?_
          refine WL.p h Val.mv ?_
          refine WL.p h (Val.ge rfl rfl) ?_
          refine WL.dec (fun d15 => ?_) (fun d15 => ?_)
          · refine WL.p h (Val.pick rfl) ?_
            refine WL.p h Val.mv ?_
            refine WL.p h Val.mv ?_
            refine WL.p h (Val.lt rfl rfl) ?_
            refine WL.dec (fun d19 => ?_) (fun d19 => ?_)
            · refine WL.p h (Val.pick rfl) ?_
              refine WL.p h (Val.pick rfl) ?_
              refine WL.nil ?_
              exfalso; omega
            · refine WL.p h (Val.pick rfl) ?_
              refine WL.p h (Val.pick rfl) ?_
              refine WL.nil ?_
              refine W.condF rfl ?_
              refine W.skip ?_
              refine W.seq (W.region rfl ?_)
              refine WL.p h Val.as ?_
              refine WL.nil ?_
              refine W.ret ?_
              exact fin1 (v := .bool true) rfl rfl (hfin h)
          · refine WL.p h (Val.pick rfl) ?_
            refine WL.p h Val.mv ?_
            refine WL.no rfl (?_)
            refine WL.no rfl (?_)
            refine WL.p h (Val.pick rfl) ?_
            refine WL.p h (Val.pick rfl) ?_
            refine WL.nil ?_
            refine W.condF rfl ?_
            refine W.skip ?_
            refine W.seq (W.region rfl ?_)
            refine WL.p h Val.as ?_
            refine WL.nil ?_
            refine W.ret ?_
            exact fin1 (v := .bool true) rfl rfl (hfin h)
        · refine WL.p h Val.mv ?_
          refine WL.no rfl (?_)
          refine WL.no rfl (?_)
          refine WL.p h (Val.pick rfl) ?_
          refine WL.p h Val.mv ?_
          refine WL.no rfl (?_)
          refine WL.no rfl (?_)
          refine WL.p h (Val.pick rfl) ?_
          refine WL.p h (Val.pick rfl) ?_
          refine WL.nil ?_
          refine W.condF rfl ?_
          refine W.skip ?_
          refine W.seq (W.region rfl ?_)
          refine WL.p h Val.as ?_
          refine WL.nil ?_
          refine W.ret ?_
          exact fin1 (v := .bool true) rfl rfl (hfin h)
    · refine WL.p h (Val.pick rfl) ?_
      refine WL.p h Val.mv ?_
      refine WL.no rfl (?_)
      refine WL.no rfl (?_)
      refine WL.p h (Val.pick rfl) ?_
      refine WL.p h Val.mv ?_
      refine WL.p h Val.mv ?_
      refine WL.p h (Val.ge (a := x) (b := 0) h9 rfl) ?_
      refine WL.dec (fun d12 => ?_) (fun d12 => ?_)
      · refine WL.p h Val.mv ?_
        refine WL.p h Val.mv ?_
        refine WL.p h (Val.ge rfl rfl) ?_
        refine WL.dec (fun d15 => ?_) (fun d15 => ?_)
        · refine WL.p h (Val.pick rfl) ?_
          refine WL.p h Val.mv ?_
          refine WL.p h Val.mv ?_
          refine WL.p h (Val.lt rfl rfl) ?_
          refine WL.dec (fun d19 => ?_) (fun d19 => ?_)
          · refine WL.p h (Val.pick rfl) ?_
            refine WL.p h (Val.pick rfl) ?_
            refine WL.nil ?_
            exfalso; omega
          · refine WL.p h (Val.pick rfl) ?_
            refine WL.p h (Val.pick rfl) ?_
            refine WL.nil ?_
            refine W.condF rfl ?_
            refine W.skip ?_
            refine W.seq (W.region rfl ?_)
            refine WL.p h Val.as ?_
            refine WL.nil ?_
            refine W.ret ?_
            exact fin1 (v := .bool true) rfl rfl (hfin h)
        · refine WL.p h (Val.pick rfl) ?_
          refine WL.p h Val.mv ?_
          refine WL.no rfl (?_)
          refine WL.no rfl (?_)
          refine WL.p h (Val.pick rfl) ?_
          refine WL.p h (Val.pick rfl) ?_
          refine WL.nil ?_
          refine W.condF rfl ?_
          refine W.skip ?_
          refine W.seq (W.region rfl ?_)
          refine WL.p h Val.as ?_
          refine WL.nil ?_
          refine W.ret ?_
          exact fin1 (v := .bool true) rfl rfl (hfin h)
      · refine WL.p h Val.mv ?_
        refine WL.no rfl (?_)
        refine WL.no rfl (?_)
        refine WL.p h (Val.pick rfl) ?_
        refine WL.p h Val.mv ?_
        refine WL.no rfl (?_)
        refine WL.no rfl (?_)
        refine WL.p h (Val.pick rfl) ?_
        refine WL.p h (Val.pick rfl) ?_
        refine WL.nil ?_
        refine W.condF rfl ?_
        refine W.skip ?_
        refine W.seq (W.region rfl ?_)
        refine WL.p h Val.as ?_
        refine WL.nil ?_
        refine W.ret ?_
        exact fin1 (v := .bool true) rfl rfl (hfin h)
  · refine WL.p h Val.mv ?_
    refine WL.no rfl (?_)
    refine WL.no rfl (?_)
    refine WL.p h (Val.pick rfl) ?_
    refine WL.p h Val.mv ?_
    refine WL.no rfl (?_)
    refine WL.no rfl (?_)
    refine WL.p h (Val.pick rfl) ?_
    refine WL.p h Val.mv ?_
    refine WL.p h Val.mv ?_
    refine WL.p h (Val.ge (a := x) (b := 0) h9 rfl) ?_
    refine WL.dec (fun d12 => ?_) (fun d12 => ?_)
    · refine WL.p h Val.mv ?_
      refine WL.p h Val.mv ?_
      refine WL.p h (Val.ge rfl rfl) ?_
      refine WL.dec (fun d15 => ?_) (fun d15 => ?_)
      · refine WL.p h (Val.pick rfl) ?_
        refine WL.p h Val.mv ?_
        refine WL.p h Val.mv ?_
        refine WL.p h (Val.lt rfl rfl) ?_
        refine WL.dec (fun d19 => ?_) (fun d19 => ?_)
        · refine WL.p h (Val.pick rfl) ?_
          refine WL.p h (Val.pick rfl) ?_
          refine WL.nil ?_
          exfalso; omega
        · refine WL.p h (Val.pick rfl) ?_
          refine WL.p h (Val.pick rfl) ?_
          refine WL.nil ?_
          refine W.condF rfl ?_
          refine W.skip ?_
          refine W.seq (W.region rfl ?_)
          refine WL.p h Val.as ?_
          refine WL.nil ?_
          refine W.ret ?_
          exact fin1 (v := .bool true) rfl rfl (hfin h)
      · refine WL.p h (Val.pick rfl) ?_
        refine WL.p h Val.mv ?_
        refine WL.no rfl (?_)
        refine WL.no rfl (?_)
        refine WL.p h (Val.pick rfl) ?_
        refine WL.p h (Val.pick rfl) ?_
        refine WL.nil ?_
        refine W.condF rfl ?_
        refine W.skip ?_
        refine W.seq (W.region rfl ?_)
        refine WL.p h Val.as ?_
        refine WL.nil ?_
        refine W.ret ?_
        exact fin1 (v := .bool true) rfl rfl (hfin h)
    · refine WL.p h Val.mv ?_
      refine WL.no rfl (?_)
      refine WL.no rfl (?_)
      refine WL.p h (Val.pick rfl) ?_
      refine WL.p h Val.mv ?_
      refine WL.no rfl (?_)
      refine WL.no rfl (?_)
      refine WL.p h (Val.pick rfl) ?_
      refine WL.p h (Val.pick rfl) ?_
      refine WL.nil ?_
      refine W.condF rfl ?_
      refine W.skip ?_
      refine W.seq (W.region rfl ?_)
      refine WL.p h Val.as ?_
      refine WL.nil ?_
      refine W.ret ?_
      exact fin1 (v := .bool true) rfl rfl (hfin h)
end Go.Proofs.Ytmiihhbgfijcmaa.K

