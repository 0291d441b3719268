/- Targets: the reference's list of a record, walked. -/
import Derived.Test.YtmiihhbgfijcmaaGreatZd
namespace Go.Proofs.YtmiihhbgfijcmaaGreat.K
open Go Go.RowKit
set_option linter.unusedVariables false
set_option linter.unusedSimpArgs false
set_option maxRecDepth 20000
def listG : List T → List ByteArray → List ByteArray × Bool
  | [], acc => (acc, true)
  | k :: r, acc => if k.atom.k ≠ 4 ∨ k.atom.t = ⟨#[]⟩ then (acc, false) else listG r (acc ++ [k.atom.t])
def listA (ks : List T) (name : ByteArray) (need : Bool) : List ByteArray × Bool := match getT ks name with
  | none => ([], !need)
  | some x => if x.atom.k ≠ 5 ∨ (need = true ∧ x.kids = []) then ([], false) else listG x.kids []
def PLs (F : Fz) (w0 : World) (p : List ByteArray × Bool) (e : Ending) (w : World) : Prop := ∃ F' s, e = .returned (.tuple #[s, .bool p.2]) ∧ Ext F w0 F' w ∧ FRow F' s p.1.length 1 (rowS p.1)
theorem PLs.mk {F w0 w} {F' : Fz} {p : List ByteArray × Bool} {l : List ByteArray} {b : Bool} {s : Value} (hE : Ext F w0 F' w) (hr : FRow F' s l.length 1 (rowS l)) (h : p = (l, b)) : PLs F w0 p (.returned (.tuple #[s, .bool b])) w := ⟨F', s, by rw [h], hE, by rw [h]; exact hr⟩
theorem getT_mem : ∀ (ks : List T) {s : ByteArray} {x : T}, getT ks s = some x → x ∈ ks
  | [], s, x, h => by simp [getT] at h
  | [a], s, x, h => by simp [getT] at h
  | a :: b :: r, s, x, h => by
    rw [getT] at h
    split at h
    · cases h; simp
    · have := getT_mem r h
      simp [this]
theorem enc_le_mem {ks : List T} {x : T} {n : Nat} (h : x ∈ ks) (hl : (T.encs ks).length ≤ n) : x.enc.length ≤ n := by
  obtain ⟨i, hi⟩ := List.mem_iff_getElem?.1 h
  have := enc_le ks hi
  omega
theorem encs_geZ : ∀ (ks : List T), ks.length ≤ (T.encs ks).length
  | [] => by simp
  | k :: ks => by
    have h1 := encs_geZ ks
    have h2 := enc_pos k
    simp only [T.encs, List.length_append, List.length_cons]
    omega
theorem kids_le (x : T) : x.kids.length ≤ x.enc.length := by
  have h1 := encs_geZ x.kids
  have h2 := enc_eq x
  rw [h2]; simp; omega
theorem drop_at {α : Type} {l : List α} {j : Nat} {y : α} (h : l[j]? = some y) : l.drop j = y :: l.drop (j + 1) := by
  obtain ⟨l1, e1⟩ := List.getElem?_eq_some_iff.1 h
  rw [List.drop_eq_getElem_cons l1, e1]
def leI (w0 : World) (F F3 : Fz) (b3 b9 : Nat) (v sg u : Value) (x : T) (res : List ByteArray × Bool) (j : Nat) (R : Regs) (w : World) : Prop :=
  ∃ (acc : List ByteArray) (ov : Value), Hp w0 F F3 [.box b3 [v] 45, .own ov 9 1 acc.length (rowS acc), .box b9 [sg] 45] w ∧ listG (x.kids.drop j) acc = res ∧ acc.length ≤ j ∧ R 8 = ov ∧ R 11 = u ∧ R 13 = .int .i64 (j : Int)
theorem le_snoc {w0 w : World} {F0 F : Fz} {a c : Ch} {L : List Ch} {ov : Value} {out : List ByteArray} {x : ByteArray} (h : Hp w0 F0 F (a :: .own ov 9 1 (out.length + 1) (rowS out ++ [.string x]) :: c :: L) w) : Hp w0 F0 F [a, .own ov 9 1 (out ++ [x]).length (rowS (out ++ [x])), c] w := by
  have h := h.keep 3
  have e : rowS out ++ [Value.string x] = rowS (out ++ [x]) := by simp [rowS]
  have e2 : out.length + 1 = (out ++ [x]).length := by simp
  rw [e, e2] at h
  exact h
set_option maxHeartbeats 4000000 in
theorem l9List_calls (F : Fz) (w0 : World) (hF : Sub F (hv w0)) (v : Value) (t : T) (q : Nat) (ht : t.Wf) (htk : ∀ k ∈ t.kids, T.Wf k) (hkl : (T.encs t.kids).length ≤ 1000) (hr : FRow F v t.enc.length 4 (rowA t.enc)) (hB : t.enc.length ≤ 1048576) (hq : t.kids.length = 2 * q) (name : ByteArray) (need : Bool) : Calls Tryz.prog 40 #[.agg #[v], .string name, .bool need] w0 (PLs F w0 (listA t.kids name need)) := by
  refine calls 75 Tryz.func40 rfl rfl rfl ?_
  have h := Hp.start hF
  refine W.seq (W.region rfl ?_)
  refine WL.box h rfl (fun b3 w h => ?_)
  refine WL.p h Val.as ?_
  refine WL.p h Val.as ?_
  refine WL.nil ?_
  refine W.seq (W.region rfl ?_)
  refine WL.bs0 h Tryz.underlying41 T9 (fun bo w h => ?_)
  refine WL.p h Val.as ?_
  refine WL.nil ?_
  refine W.seq (W.region rfl ?_)
  refine WL.p h (Val.ldS 0 A42 T42 rfl rfl rfl) ?_
  refine WL.p h Val.mv ?_
  refine WL.call C84 (args := [.agg #[v], .string name]) rfl ((l5Get_calls F _ h.sub v t q ht hr hB hq name).mono ?_)
  rintro e w' ⟨F2, sg, b, rfl, hE, hsg, hb, hrow⟩
  have h := h.call hE
  refine ⟨_, rfl, ?_⟩
  refine WL.p h Val.mv ?_
  refine WL.p h (Val.ext (v := .agg #[sg]) rfl rfl) ?_
  refine WL.p h (Val.ext (v := .bool b) rfl rfl) ?_
  refine WL.alloc h T42 (fun b9 w h => ?_)
  refine WL.stS 2 h rfl T42 rfl (vs := [sg]) rfl (one1 hsg) rfl rfl (fun w h => ?_)
  refine WL.p h Val.as ?_
  refine WL.nil ?_
  refine W.seq (W.seq (W.region rfl ?_))
  refine WL.p h Val.mv ?_
  refine WL.p h (Val.not rfl) ?_
  cases hg : getT t.kids name with
  | none =>
    rw [hg] at hb
    obtain rfl : b = false := hb
    refine WL.nil ?_
    refine W.condT rfl ?_
    refine W.seq (W.region rfl ?_)
    refine WL.p h Val.mv ?_
    refine WL.p h Val.mv ?_
    refine WL.p h (Val.not rfl) ?_
    refine WL.p h Val.as ?_
    refine WL.p h Val.as ?_
    refine WL.nil ?_
    refine W.ret ?_
    obtain ⟨F9, hs9, h9, hrow9⟩ := h.freezeRow 1 rfl
    exact fin2 (v := .slice (some ⟨bo, 0, none⟩) 0 0) (x := .bool (!need)) rfl rfl rfl (PLs.mk (l := []) h9.toExt hrow9 (by rw [listA, hg]))
  | some x =>
    rw [hg] at hb
    obtain rfl : b = true := hb
    have hrx := hrow x hg
    have hxm := getT_mem _ hg
    have hxw := htk x hxm
    have hxl := enc_le_mem hxm hkl
    have hkn := kids_le x
    refine WL.nil ?_
    refine W.condF rfl ?_
    refine W.skip ?_
    refine W.seq (W.region rfl ?_)
    refine WL.p h (Val.ldS 2 A42 T42 rfl rfl rfl) ?_
    refine WL.call C69 (args := [.agg #[sg]]) rfl ((l5Kids_calls F2 _ h.sub sg _ hrx (by have := hxl; omega)).mono ?_)
    rintro e w' ⟨F3, u, us, ok, rfl, hE3, hk⟩
    rw [kidsP_enc x hxw] at hk
    obtain ⟨rfl, hrk, hkk⟩ := hk
    have h := h.call hE3
    have hrx := hrx.mono hE3.ext
    refine ⟨_, rfl, ?_⟩
    refine WL.p h Val.mv ?_
    refine WL.p h (Val.ext (v := u) rfl rfl) ?_
    refine WL.p h (Val.ext (v := .bool true) rfl rfl) ?_
    refine WL.p h Val.as ?_
    refine WL.p h Val.as ?_
    refine WL.nil ?_
    refine W.seq (W.seq (W.region rfl ?_))
    refine WL.p h (Val.ldS 2 A42 T42 rfl rfl rfl) ?_
    refine WL.call C46 (args := [.agg #[sg]]) rfl ((l6Kind_calls F3 _ h.sub sg x.enc hrx x.atom (enc_last x)).mono ?_)
    rintro e w' ⟨rfl, hE⟩
    have h := h.call hE
    refine ⟨_, rfl, ?_⟩
    refine WL.p h (Val.ne (a := x.atom.k) (b := 5) rfl rfl) ?_
    refine WL.dec (fun k5 => ?_) (fun k5 => ?_)
    · refine WL.p h Val.mv ?_
      refine WL.no rfl (WL.no rfl (WL.no rfl (WL.no rfl (WL.no rfl (WL.no rfl (?_))))))
      refine WL.p h (Val.pick rfl) ?_
      refine WL.nil ?_
      refine W.condT rfl ?_
      refine W.seq (W.region rfl ?_)
      refine WL.p h Val.mv ?_
      refine WL.p h Val.as ?_
      refine WL.p h Val.as ?_
      refine WL.nil ?_
      refine W.ret ?_
      obtain ⟨F9, hs9, h9, hrow9⟩ := h.freezeRow 1 rfl
      exact fin2 (v := .slice (some ⟨bo, 0, none⟩) 0 0) (x := .bool false) rfl rfl rfl (PLs.mk (l := []) h9.toExt hrow9 (by rw [listA, hg]; simp [k5]))
    have k5 : x.atom.k = 5 := Decidable.not_not.1 k5
    have hgo : (need = false ∨ x.kids ≠ []) → listA t.kids name need = listG x.kids [] := fun hc => by rw [listA, hg]; simp only; rw [if_neg (by rintro (h1 | ⟨h1, h2⟩); exact h1 k5; rcases hc with hc | hc; rw [hc] at h1; cases h1; exact hc h2)]
    cases need with
    | true =>
      refine WL.p h Val.mv ?_
      refine WL.p h Val.mv ?_
      refine WL.p h Val.mv ?_
      refine WL.p h Val.mv ?_
      refine WL.p h (Val.len Tryz.underlying74 rfl hrk.val) ?_
      refine WL.p h (Val.eq (a := (x.kids.length : Int)) (b := 0) rfl rfl) ?_
      refine WL.dec (fun c0 => ?_) (fun c0 => ?_)
      · refine WL.p h (Val.pick rfl) ?_
        refine WL.p h (Val.pick rfl) ?_
        refine WL.nil ?_
        refine W.condT rfl ?_
        refine W.seq (W.region rfl ?_)
        refine WL.p h Val.mv ?_
        refine WL.p h Val.as ?_
        refine WL.p h Val.as ?_
        refine WL.nil ?_
        refine W.ret ?_
        obtain ⟨F9, hs9, h9, hrow9⟩ := h.freezeRow 1 rfl
        exact fin2 (v := .slice (some ⟨bo, 0, none⟩) 0 0) (x := .bool false) rfl rfl rfl (PLs.mk (l := []) h9.toExt hrow9 (by rw [listA, hg]; simp [List.eq_nil_of_length_eq_zero (show x.kids.length = 0 by omega)]))
      have hne : x.kids ≠ [] := fun e => c0 (by rw [e]; rfl)
      refine WL.p h (Val.pick rfl) ?_
      refine WL.p h (Val.pick rfl) ?_
      refine WL.nil ?_
      refine W.condF rfl ?_
      refine W.skip ?_
      refine W.seq (W.seq (W.region rfl ?_))
      refine WL.p h Val.as ?_
      refine WL.nil ?_
      refine W.block ?_
      refine W.loop (fun m R w => ∃ j, m + j = x.kids.length ∧ leI w0 F F3 b3 b9 v sg u x (listA t.kids name true) j R w) x.kids.length ⟨0, by omega, [], _, h, by simpa using (hgo (Or.inr hne)).symm, by simp, rfl, rfl, rfl⟩ (fun m R w hI => ?_)
      clear h
      obtain ⟨j, hm, acc, ov, h, hacc, hal, h8, h11, h13⟩ := hI
      refine W.seq (W.seq (W.region rfl ?_))
      refine WL.p h Val.mv ?_
      refine WL.p h Val.mv ?_
      refine WL.p h (Val.len Tryz.underlying74 h11 hrk.val) ?_
      refine WL.p h (Val.lt h13 rfl) ?_
      refine WL.dec (fun c1 => ?_) (fun c1 => ?_)
      · obtain ⟨y, hy⟩ : ∃ y, x.kids[j]? = some y := ⟨_, List.getElem?_eq_getElem (by omega)⟩
        obtain ⟨s1, hs1, hr1⟩ := hkk.get _ y hy
        have hdrop : x.kids.drop j = y :: x.kids.drop (j + 1) := drop_at hy
        rw [hdrop, listG] at hacc
        refine WL.nil ?_
        refine W.condT rfl ?_
        refine W.skip ?_
        refine W.seq (W.block ?_)
        refine W.seq (W.seq (W.region rfl ?_))
        refine WL.p h Val.mv ?_
        refine WL.p h Val.mv ?_
        refine WL.p h (Val.ix (i := j) Tryz.underlying74 T42 h11 h13 (hrk.slice (by omega)) (by omega)) ?_
        refine WL.p h (Val.ldRS A42 T42 hrk rfl (cs := [s1]) rfl (one_cell hs1)) ?_
        refine WL.call C46 (args := [.agg #[s1]]) rfl ((l6Kind_calls F3 _ h.sub s1 y.enc hr1 y.atom (enc_last y)).mono ?_)
        rintro e w' ⟨rfl, hE⟩
        have h := h.call hE
        refine ⟨_, rfl, ?_⟩
        refine WL.p h (Val.ne (a := y.atom.k) (b := 4) rfl rfl) ?_
        refine WL.dec (fun c2 => ?_) (fun c2 => ?_)
        · refine WL.p h Val.mv ?_
          refine WL.no rfl (WL.no rfl (WL.no rfl (WL.no rfl (WL.no rfl (WL.no rfl (WL.no rfl (?_)))))))
          refine WL.p h (Val.pick rfl) ?_
          refine WL.nil ?_
          refine W.condT rfl ?_
          refine W.seq (W.region rfl ?_)
          refine WL.p h Val.mv ?_
          refine WL.p h Val.as ?_
          refine WL.p h Val.as ?_
          refine WL.nil ?_
          refine W.ret ?_
          obtain ⟨F9, hs9, h9, hrow9⟩ := h.freezeRow 1 rfl
          exact fin2 (v := ov) (x := .bool false) rfl h8 rfl (PLs.mk (l := acc) h9.toExt hrow9 (by rw [← hacc, if_pos (Or.inl c2)]))
        refine WL.p h Val.mv ?_
        refine WL.p h Val.mv ?_
        refine WL.p h Val.mv ?_
        refine WL.p h (Val.ix (i := j) Tryz.underlying74 T42 h11 h13 (hrk.slice (by omega)) (by omega)) ?_
        refine WL.p h (Val.ldRS A42 T42 hrk rfl (cs := [s1]) rfl (one_cell hs1)) ?_
        refine WL.call C48 (args := [.agg #[s1]]) rfl ((l5Last_calls F3 _ h.sub s1 y.enc hr1 y.atom (enc_last y)).mono ?_)
        rintro e w' ⟨rfl, hE⟩
        have h := h.call hE
        refine ⟨_, rfl, ?_⟩
        refine WL.p h (Val.fld E79_2 rfl rfl) ?_
        refine WL.p h (Val.sEq (a := y.atom.t) (b := ⟨#[]⟩) rfl rfl) ?_
        refine WL.dec (fun c3 => ?_) (fun c3 => ?_)
        · refine WL.p h (Val.pick rfl) ?_
          refine WL.nil ?_
          refine W.condT rfl ?_
          refine W.seq (W.region rfl ?_)
          refine WL.p h Val.mv ?_
          refine WL.p h Val.as ?_
          refine WL.p h Val.as ?_
          refine WL.nil ?_
          refine W.ret ?_
          obtain ⟨F9, hs9, h9, hrow9⟩ := h.freezeRow 1 rfl
          exact fin2 (v := ov) (x := .bool false) rfl h8 rfl (PLs.mk (l := acc) h9.toExt hrow9 (by rw [← hacc, if_pos (Or.inr c3)]))
        rw [if_neg (not_or.2 ⟨c2, c3⟩)] at hacc
        refine WL.p h (Val.pick rfl) ?_
        refine WL.nil ?_
        refine W.condF rfl ?_
        refine W.skip ?_
        refine W.region rfl ?_
        refine WL.p h Val.mv ?_
        refine WL.p h Val.mv ?_
        refine WL.p h Val.mv ?_
        refine WL.p h (Val.ix (i := j) Tryz.underlying74 T42 h11 h13 (hrk.slice (by omega)) (by omega)) ?_
        refine WL.p h (Val.ldRS A42 T42 hrk rfl (cs := [s1]) rfl (one_cell hs1)) ?_
        refine WL.call C48 (args := [.agg #[s1]]) rfl ((l5Last_calls F3 _ h.sub s1 y.enc hr1 y.atom (enc_last y)).mono ?_)
        rintro e w' ⟨rfl, hE⟩
        have h := h.call hE
        refine ⟨_, rfl, ?_⟩
        refine WL.p h (Val.fld E79_2 rfl rfl) ?_
        refine WL.bs1 h Tryz.underlying41 T9 (by decide) (cs := [.string y.atom.t]) rfl rfl (fun b8 w h => ?_)
        refine WL.app 1 h rfl Tryz.underlying41 T9 (by decide) h8 rfl (news := [.string y.atom.t]) rfl (box_news h (i := 3) rfl) (by simp [Value.oneCell']) (by omega) (by omega) (fun ov' w h => ?_)
        refine WL.p h Val.as ?_
        refine WL.nil ?_
        refine W.region rfl ?_
        refine WL.p h Val.mv ?_
        refine WL.p h (Val.addi (c := ((j + 1 : Nat) : Int)) h13 rfl (by omega)) ?_
        refine WL.p h Val.as ?_
        refine WL.nil ?_
        exact ⟨m - 1, by omega, j + 1, by omega, acc ++ [y.atom.t], ov', le_snoc h, hacc, by simp; omega, rfl, h11, rfl⟩
      · rw [List.drop_eq_nil_of_le (show x.kids.length ≤ j by omega), listG] at hacc
        refine WL.nil ?_
        refine W.condF rfl ?_
        refine W.exit ?_
        refine W.seq (W.region rfl ?_)
        refine WL.p h Val.mv ?_
        refine WL.p h Val.as ?_
        refine WL.p h Val.as ?_
        refine WL.nil ?_
        refine W.ret ?_
        obtain ⟨F9, hs9, h9, hrow9⟩ := h.freezeRow 1 rfl
        exact fin2 (v := ov) (x := .bool true) rfl h8 rfl (PLs.mk (l := acc) h9.toExt hrow9 (by rw [← hacc]))
    | false =>
      refine WL.p h Val.mv ?_
      refine WL.p h Val.mv ?_
      refine WL.p h Val.mv ?_
      refine WL.no rfl (WL.no rfl (WL.no rfl (?_)))
      refine WL.p h (Val.pick rfl) ?_
      refine WL.p h (Val.pick rfl) ?_
      refine WL.nil ?_
      refine W.condF rfl ?_
      refine W.skip ?_
      refine W.seq (W.seq (W.region rfl ?_))
      refine WL.p h Val.as ?_
      refine WL.nil ?_
      refine W.block ?_
      refine W.loop (fun m R w => ∃ j, m + j = x.kids.length ∧ leI w0 F F3 b3 b9 v sg u x (listA t.kids name false) j R w) x.kids.length ⟨0, by omega, [], _, h, by simpa using (hgo (Or.inl rfl)).symm, by simp, rfl, rfl, rfl⟩ (fun m R w hI => ?_)
      clear h
      obtain ⟨j, hm, acc, ov, h, hacc, hal, h8, h11, h13⟩ := hI
      refine W.seq (W.seq (W.region rfl ?_))
      refine WL.p h Val.mv ?_
      refine WL.p h Val.mv ?_
      refine WL.p h (Val.len Tryz.underlying74 h11 hrk.val) ?_
      refine WL.p h (Val.lt h13 rfl) ?_
      refine WL.dec (fun c1 => ?_) (fun c1 => ?_)
      · obtain ⟨y, hy⟩ : ∃ y, x.kids[j]? = some y := ⟨_, List.getElem?_eq_getElem (by omega)⟩
        obtain ⟨s1, hs1, hr1⟩ := hkk.get _ y hy
        have hdrop : x.kids.drop j = y :: x.kids.drop (j + 1) := drop_at hy
        rw [hdrop, listG] at hacc
        refine WL.nil ?_
        refine W.condT rfl ?_
        refine W.skip ?_
        refine W.seq (W.block ?_)
        refine W.seq (W.seq (W.region rfl ?_))
        refine WL.p h Val.mv ?_
        refine WL.p h Val.mv ?_
        refine WL.p h (Val.ix (i := j) Tryz.underlying74 T42 h11 h13 (hrk.slice (by omega)) (by omega)) ?_
        refine WL.p h (Val.ldRS A42 T42 hrk rfl (cs := [s1]) rfl (one_cell hs1)) ?_
        refine WL.call C46 (args := [.agg #[s1]]) rfl ((l6Kind_calls F3 _ h.sub s1 y.enc hr1 y.atom (enc_last y)).mono ?_)
        rintro e w' ⟨rfl, hE⟩
        have h := h.call hE
        refine ⟨_, rfl, ?_⟩
        refine WL.p h (Val.ne (a := y.atom.k) (b := 4) rfl rfl) ?_
        refine WL.dec (fun c2 => ?_) (fun c2 => ?_)
        · refine WL.p h Val.mv ?_
          refine WL.no rfl (WL.no rfl (WL.no rfl (WL.no rfl (WL.no rfl (WL.no rfl (WL.no rfl (?_)))))))
          refine WL.p h (Val.pick rfl) ?_
          refine WL.nil ?_
          refine W.condT rfl ?_
          refine W.seq (W.region rfl ?_)
          refine WL.p h Val.mv ?_
          refine WL.p h Val.as ?_
          refine WL.p h Val.as ?_
          refine WL.nil ?_
          refine W.ret ?_
          obtain ⟨F9, hs9, h9, hrow9⟩ := h.freezeRow 1 rfl
          exact fin2 (v := ov) (x := .bool false) rfl h8 rfl (PLs.mk (l := acc) h9.toExt hrow9 (by rw [← hacc, if_pos (Or.inl c2)]))
        refine WL.p h Val.mv ?_
        refine WL.p h Val.mv ?_
        refine WL.p h Val.mv ?_
        refine WL.p h (Val.ix (i := j) Tryz.underlying74 T42 h11 h13 (hrk.slice (by omega)) (by omega)) ?_
        refine WL.p h (Val.ldRS A42 T42 hrk rfl (cs := [s1]) rfl (one_cell hs1)) ?_
        refine WL.call C48 (args := [.agg #[s1]]) rfl ((l5Last_calls F3 _ h.sub s1 y.enc hr1 y.atom (enc_last y)).mono ?_)
        rintro e w' ⟨rfl, hE⟩
        have h := h.call hE
        refine ⟨_, rfl, ?_⟩
        refine WL.p h (Val.fld E79_2 rfl rfl) ?_
        refine WL.p h (Val.sEq (a := y.atom.t) (b := ⟨#[]⟩) rfl rfl) ?_
        refine WL.dec (fun c3 => ?_) (fun c3 => ?_)
        · refine WL.p h (Val.pick rfl) ?_
          refine WL.nil ?_
          refine W.condT rfl ?_
          refine W.seq (W.region rfl ?_)
          refine WL.p h Val.mv ?_
          refine WL.p h Val.as ?_
          refine WL.p h Val.as ?_
          refine WL.nil ?_
          refine W.ret ?_
          obtain ⟨F9, hs9, h9, hrow9⟩ := h.freezeRow 1 rfl
          exact fin2 (v := ov) (x := .bool false) rfl h8 rfl (PLs.mk (l := acc) h9.toExt hrow9 (by rw [← hacc, if_pos (Or.inr c3)]))
        rw [if_neg (not_or.2 ⟨c2, c3⟩)] at hacc
        refine WL.p h (Val.pick rfl) ?_
        refine WL.nil ?_
        refine W.condF rfl ?_
        refine W.skip ?_
        refine W.region rfl ?_
        refine WL.p h Val.mv ?_
        refine WL.p h Val.mv ?_
        refine WL.p h Val.mv ?_
        refine WL.p h (Val.ix (i := j) Tryz.underlying74 T42 h11 h13 (hrk.slice (by omega)) (by omega)) ?_
        refine WL.p h (Val.ldRS A42 T42 hrk rfl (cs := [s1]) rfl (one_cell hs1)) ?_
        refine WL.call C48 (args := [.agg #[s1]]) rfl ((l5Last_calls F3 _ h.sub s1 y.enc hr1 y.atom (enc_last y)).mono ?_)
        rintro e w' ⟨rfl, hE⟩
        have h := h.call hE
        refine ⟨_, rfl, ?_⟩
        refine WL.p h (Val.fld E79_2 rfl rfl) ?_
        refine WL.bs1 h Tryz.underlying41 T9 (by decide) (cs := [.string y.atom.t]) rfl rfl (fun b8 w h => ?_)
        refine WL.app 1 h rfl Tryz.underlying41 T9 (by decide) h8 rfl (news := [.string y.atom.t]) rfl (box_news h (i := 3) rfl) (by simp [Value.oneCell']) (by omega) (by omega) (fun ov' w h => ?_)
        refine WL.p h Val.as ?_
        refine WL.nil ?_
        refine W.region rfl ?_
        refine WL.p h Val.mv ?_
        refine WL.p h (Val.addi (c := ((j + 1 : Nat) : Int)) h13 rfl (by omega)) ?_
        refine WL.p h Val.as ?_
        refine WL.nil ?_
        exact ⟨m - 1, by omega, j + 1, by omega, acc ++ [y.atom.t], ov', le_snoc h, hacc, by simp; omega, rfl, h11, rfl⟩
      · rw [List.drop_eq_nil_of_le (show x.kids.length ≤ j by omega), listG] at hacc
        refine WL.nil ?_
        refine W.condF rfl ?_
        refine W.exit ?_
        refine W.seq (W.region rfl ?_)
        refine WL.p h Val.mv ?_
        refine WL.p h Val.as ?_
        refine WL.p h Val.as ?_
        refine WL.nil ?_
        refine W.ret ?_
        obtain ⟨F9, hs9, h9, hrow9⟩ := h.freezeRow 1 rfl
        exact fin2 (v := ov) (x := .bool true) rfl h8 rfl (PLs.mk (l := acc) h9.toExt hrow9 (by rw [← hacc]))
end Go.Proofs.YtmiihhbgfijcmaaGreat.K

