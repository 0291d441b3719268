/- The reference's test of a value: walked. -/
import Derived.Test.YtmiihhbgfijcmaaGreatSk
namespace Go.Proofs.YtmiihhbgfijcmaaGreat.K
open Go Go.RowKit
set_option linter.unusedVariables false
set_option linter.unusedSimpArgs false
set_option maxRecDepth 20000

theorem C40 : CF Tryz.prog 35 := ⟨_, Tryz.func35, rfl, rfl⟩
theorem E79_0 : FE Tryz.prog 78 0 0 := FE.of Tryz.underlying78 rfl rfl rfl A3
theorem E79_1 : FE Tryz.prog 78 1 1 := FE.of Tryz.underlying78 rfl rfl rfl A2
theorem E79_2 : FE Tryz.prog 78 2 2 := FE.of Tryz.underlying78 rfl rfl rfl A9
theorem E79_3 : FE Tryz.prog 78 3 3 := FE.of Tryz.underlying78 rfl rfl rfl A3

theorem enc_le : ∀ (ks : List T) {i : Nat} {k : T}, ks[i]? = some k → k.enc.length ≤ (T.encs ks).length
  | [], i, k, h => by simp at h
  | t :: ts, 0, k, h => by simp at h; subst h; simp [T.encs]
  | t :: ts, i + 1, k, h => by have := enc_le ts (i := i) (by simpa using h); simp only [T.encs, List.length_append]; omega
theorem encs_ge : ∀ (ks : List T), ks.length ≤ (T.encs ks).length
  | [] => by simp
  | t :: ts => by have := encs_ge ts; have := enc_pos t; simp only [T.encs, List.length_append, List.length_cons]; omega
theorem one_cell {us : List Value} {i : Nat} {s : Value} (hs : us[i]? = some s) : ∀ (j : Nat) u, [s][j]? = some u → us[i * 1 + j]? = some u
  | 0, u, h => by simp at h; subst h; simpa using hs
  | j + 1, u, h => by simp at h
def RecOk (ks : List T) : Prop := ∀ (i : Nat) x, ks[2 * i]? = some x → x.atom.k = 4 ∧ ∀ y, 0 < i → ks[2 * (i - 1)]? = some y → Op.bytesLess y.atom.t.toList x.atom.t.toList = true
def Plain (a : At) : Prop := (a.k ≠ 2 → a.k ≠ 3 → a.n = 0) ∧ (a.k ≠ 4 → a.t = ⟨#[]⟩) ∧ (a.k ≠ 5 → a.k ≠ 6 → a.c = 0)
def Kind (a : At) (ks : List T) : Prop := a.k = 1 ∨ a.k = 3 ∨ (a.k = 2 ∧ (a.n = 0 ∨ a.n = 1)) ∨ (a.k = 4 ∧ a.t.size ≤ 1000) ∨ (a.k = 5 ∧ a.c ≤ 200) ∨ (a.k = 6 ∧ a.c.tmod 2 = 0 ∧ a.c ≤ 400 ∧ RecOk ks)
mutual
def okT : T → Int → Prop
  | .node a ks, above => above ≤ 12 ∧ Plain a ∧ Kind a ks ∧ okTs ks (above + 1)
def okTs : List T → Int → Prop
  | [], _ => True
  | t :: ts, above => okT t above ∧ okTs ts above
end
theorem okTs_iff : ∀ (ks : List T) (above : Int), okTs ks above ↔ ∀ (i : Nat) k, ks[i]? = some k → okT k above
  | [], above => by simp [okTs]
  | t :: ts, above => by
    rw [okTs, okTs_iff ts]
    constructor
    · rintro ⟨h1, h2⟩ i k hk
      cases i with
      | zero => simp at hk; exact hk ▸ h1
      | succ i => exact h2 i k (by simpa using hk)
    · intro h
      exact ⟨h 0 t rfl, fun i k hk => h (i + 1) k (by simpa using hk)⟩
def okP (es : List At) (above : Int) : Prop := ∃ ks a, kidsP es = some ks ∧ es.getLast? = some a ∧ okT (.node a ks) above
theorem okP_enc (t : T) (h : t.Wf) (above : Int) : okP t.enc above ↔ okT t above := by
  unfold okP
  rw [kidsP_enc t h]
  cases t with
  | node a ks =>
    simp only [T.kids, T.enc, List.getLast?_concat, Option.some.injEq]
    exact ⟨fun ⟨_, _, e1, e2, h⟩ => by subst e1; subst e2; exact h, fun h => ⟨_, _, rfl, rfl, h⟩⟩
def POk (F : Fz) (w0 : World) (es : List At) (above : Int) (e : Ending) (w : World) : Prop := ∃ b, e = .returned (.bool b) ∧ (b = true ↔ okP es above) ∧ Ext F w0 F w
theorem POk.no {F w0 es above w} {F' : Fz} (hE : Ext F w0 F' w) (hn : ¬ okP es above) : POk F w0 es above (.returned (.bool false)) w := ⟨false, rfl, by simp [hn], hE.forget⟩
theorem POk.yes {F w0 es above w} {F' : Fz} (hE : Ext F w0 F' w) (hn : okP es above) : POk F w0 es above (.returned (.bool true)) w := ⟨true, rfl, by simp [hn], hE.forget⟩
def L1 (w0 : World) (F F' : Fz) (v u : Value) (b2 b7 : Nat) (above : Int) (a : At) (R : Regs) (w : World) : Prop :=
  Hp w0 F F' [.box b2 [v] 45, .box b7 a.cells 78] w ∧ R 1 = .int .i64 above ∧ R 2 = .pointer (some ⟨b2, 0, none⟩) ∧ R 5 = u ∧ R 7 = .pointer (some ⟨b7, 0, none⟩) ∧ Plain a
def L2 (w0 : World) (F F' : Fz) (v u : Value) (b2 b7 : Nat) (above : Int) (a : At) (ks : List T) (R : Regs) (w : World) : Prop :=
  Hp w0 F F' [.box b2 [v] 45, .box b7 a.cells 78] w ∧ R 1 = .int .i64 above ∧ R 5 = u ∧ Kind a ks
def L3 (w0 : World) (F F' : Fz) (v u : Value) (b2 b7 : Nat) (above : Int) (a : At) (ks : List T) (q : Nat) (m : Nat) (R : Regs) (w : World) : Prop :=
  ∃ j, m + j = q ∧ Hp w0 F F' [.box b2 [v] 45, .box b7 a.cells 78] w ∧ R 1 = .int .i64 above ∧ R 5 = u ∧ R 8 = .int .i64 ((2 * j : Nat) : Int) ∧
    ∀ (i : Nat) x, i < j → ks[2 * i]? = some x → x.atom.k = 4 ∧ ∀ y, 0 < i → ks[2 * (i - 1)]? = some y → Op.bytesLess y.atom.t.toList x.atom.t.toList = true
def L3c (w0 : World) (F F' : Fz) (v u : Value) (b2 b7 : Nat) (above : Int) (a : At) (ks : List T) (j : Nat) (R : Regs) (w : World) : Prop :=
  Hp w0 F F' [.box b2 [v] 45, .box b7 a.cells 78] w ∧ R 1 = .int .i64 above ∧ R 5 = u ∧ R 8 = .int .i64 ((2 * j : Nat) : Int) ∧
    ∀ x, ks[2 * j]? = some x → x.atom.k = 4 ∧ ∀ y, 0 < j → ks[2 * (j - 1)]? = some y → Op.bytesLess y.atom.t.toList x.atom.t.toList = true
def L4 (w0 : World) (F F' : Fz) (v u : Value) (b2 b7 : Nat) (above : Int) (a : At) (ks : List T) (m : Nat) (R : Regs) (w : World) : Prop :=
  ∃ j, m + j = ks.length ∧ Hp w0 F F' [.box b2 [v] 45, .box b7 a.cells 78] w ∧ R 1 = .int .i64 above ∧ R 5 = u ∧ R 9 = .int .i64 (j : Int) ∧ ∀ (i : Nat) k, i < j → ks[i]? = some k → okT k (above + 1)

set_option maxHeartbeats 4000000 in
theorem l5Ok_calls : ∀ (n : Nat) (F : Fz) (w0 : World) (hF : Sub F (hv w0)) (v : Value) (es : List At) (hr : FRow F v es.length 4 (rowA es)) (hB : es.length ≤ 1048576) (above : Int) (ha0 : 0 ≤ above) (ha1 : above ≤ 13) (hn : es.length ≤ n), Calls Tryz.prog 35 #[.agg #[v], .int .i64 above] w0 (POk F w0 es above) := by
  intro n
  induction n using Nat.strongRecOn with
  | ind n ih =>
    intro F w0 hF v es hr hB above ha0 ha1 hn
    refine calls 151 Tryz.func35 rfl rfl rfl ?_
    have h := Hp.start hF
    refine W.seq (W.region rfl ?_)
    refine WL.box h rfl (fun b2 w h => ?_)
    refine WL.p h Val.as ?_
    refine WL.nil ?_
    refine W.seq (W.seq (W.region rfl ?_))
    refine WL.p h (Val.fa O42_0 rfl) ?_
    refine WL.p h (Val.ld 0 A40 rfl rfl rfl) ?_
    refine WL.p h (Val.len Tryz.underlying43 rfl hr.val) ?_
    refine WL.p h (Val.eq rfl rfl) ?_
    refine WL.dec (fun c1 => ?_) (fun c1 => ?_)
    · refine WL.p h Val.mv ?_
      refine WL.no rfl (WL.no rfl (?_))
      refine WL.p h (Val.pick rfl) ?_
      refine WL.nil ?_
      refine W.condT rfl ?_
      refine W.seq (W.region rfl ?_)
      refine WL.p h Val.as ?_
      refine WL.nil ?_
      refine W.ret ?_
      refine fin1 (v := .bool false) rfl rfl (POk.no h.toExt ?_)
      have : es = [] := List.eq_nil_of_length_eq_zero (by omega)
      rw [this]
      rintro ⟨_, _, h, _⟩
      cases h
    refine WL.p h Val.mv ?_
    refine WL.p h Val.mv ?_
    refine WL.p h (Val.gt rfl rfl) ?_
    refine WL.dec (fun c2 => ?_) (fun c2 => ?_)
    · refine WL.p h (Val.pick rfl) ?_
      refine WL.nil ?_
      refine W.condT rfl ?_
      refine W.seq (W.region rfl ?_)
      refine WL.p h Val.as ?_
      refine WL.nil ?_
      refine W.ret ?_
      refine fin1 (v := .bool false) rfl rfl (POk.no h.toExt ?_)
      rintro ⟨_, _, _, _, h⟩
      have := h.1
      omega
    refine WL.p h (Val.pick rfl) ?_
    refine WL.nil ?_
    refine W.condF rfl ?_
    refine W.skip ?_
    obtain ⟨a, ha⟩ : ∃ a, es[es.length - 1]? = some a := ⟨_, List.getElem?_eq_getElem (by omega)⟩
    have hlast : es.getLast? = some a := by rw [List.getLast?_eq_getElem?]; exact ha
    refine W.seq (W.region rfl ?_)
    refine WL.p h (Val.ldS 0 A42 T42 rfl rfl rfl) ?_
    refine WL.call C69 (args := [.agg #[v]]) rfl ((l5Kids_calls F w h.sub v es hr hB).mono ?_)
    rintro e w' ⟨F', u, us, ok, rfl, hE, hkids⟩
    have h := h.call hE
    have hr := hr.mono hE.ext
    refine ⟨_, rfl, ?_⟩
    refine WL.p h Val.mv ?_
    refine WL.p h (Val.ext (v := u) rfl rfl) ?_
    refine WL.p h (Val.ext (v := .bool ok) rfl rfl) ?_
    refine WL.p h Val.as ?_
    refine WL.p h Val.as ?_
    refine WL.nil ?_
    refine W.seq (W.region rfl ?_)
    refine WL.p h (Val.ldS 0 A42 T42 rfl rfl rfl) ?_
    refine WL.call C48 (args := [.agg #[v]]) rfl ((l5Last_calls F' _ h.sub v es hr a ha).mono ?_)
    rintro e w' ⟨rfl, hE⟩
    have h := h.call hE
    refine ⟨_, rfl, ?_⟩
    refine WL.alloc h T79 (fun b7 w h => ?_)
    refine WL.stS 1 h rfl T79 rfl (vs := a.cells) rfl (by simp [At.cells, Value.oneCell']) rfl rfl (fun w h => ?_)
    refine WL.nil ?_
    cases hk : kidsP es with
    | none =>
      rw [hk] at hkids
      obtain rfl : ok = false := hkids
      refine W.seq (W.seq (W.region rfl ?_))
      refine WL.p h Val.mv ?_
      refine WL.p h (Val.not (b := false) rfl) ?_
      refine WL.p h Val.mv ?_
      refine WL.no rfl (WL.no rfl (WL.no rfl (WL.no rfl (WL.no rfl (WL.no rfl (WL.no rfl (WL.no rfl (WL.no rfl (WL.no rfl (WL.no rfl (WL.no rfl (WL.no rfl (?_)))))))))))))
      refine WL.p h (Val.pick rfl) ?_
      refine WL.p h Val.mv ?_
      refine WL.no rfl (WL.no rfl (WL.no rfl (WL.no rfl (WL.no rfl (WL.no rfl (WL.no rfl (WL.no rfl (?_))))))))
      refine WL.p h (Val.pick rfl) ?_
      refine WL.p h Val.mv ?_
      refine WL.no rfl (WL.no rfl (WL.no rfl (WL.no rfl (WL.no rfl (WL.no rfl (WL.no rfl (WL.no rfl (WL.no rfl (WL.no rfl (WL.no rfl (WL.no rfl (WL.no rfl (?_)))))))))))))
      refine WL.p h (Val.pick rfl) ?_
      refine WL.nil ?_
      refine W.condT rfl ?_
      refine W.seq (W.region rfl ?_)
      refine WL.p h Val.as ?_
      refine WL.nil ?_
      refine W.ret ?_
      refine fin1 (v := .bool false) rfl rfl (POk.no h.toExt ?_)
      rintro ⟨_, _, h, _⟩
      rw [hk] at h
      cases h
    | some ks =>
      rw [hk] at hkids
      obtain ⟨rfl, hrow, hkr⟩ := hkids
      obtain ⟨a', hes, hwf⟩ := kidsP_some hk
      have haa : a' = a := by rw [hes, T.enc, List.getLast?_concat] at hlast; exact Option.some.inj hlast
      subst haa
      have hac : a'.c = ks.length := by cases hwf; assumption
      have hkw : ∀ k ∈ ks, T.Wf k := by cases hwf; assumption
      have hel : es.length = (T.encs ks).length + 1 := by rw [hes, T.enc]; simp
      have hks : ks.length ≤ 1048576 := by have := encs_ge ks; omega
      have hP : okP es above ↔ okT (.node a' ks) above := by rw [hes]; exact okP_enc _ hwf above
      have hbad : ¬ ((a'.k ≠ 2 → a'.k ≠ 3 → a'.n = 0) ∧ (a'.k ≠ 4 → a'.t = ⟨#[]⟩) ∧ (a'.k ≠ 5 → a'.k ≠ 6 → a'.c = 0)) → ¬ okP es above := fun hn hp => hn (by rw [hP, okT] at hp; exact hp.2.1)
      have hyes : Plain a' → Kind a' ks → okTs ks (above + 1) → okP es above := fun x1 x2 x3 => by rw [hP, okT]; exact ⟨by omega, x1, x2, x3⟩
      have hbadk : ¬ Kind a' ks → ¬ okP es above := fun hn hp => hn (by rw [hP, okT] at hp; exact hp.2.2.1)
      refine W.cut (L1 w0 F F' v u b2 b7 above a') (W.seq (W.region rfl ?_)) (fun R w hJ => ?_)
      · have h1 : True := trivial
        refine WL.p h Val.mv ?_
        refine WL.p h (Val.not rfl) ?_
        refine WL.p h Val.mv ?_
        refine WL.p h (Val.fa O79_0 rfl) ?_
        refine WL.p h (Val.ld 1 A3 rfl rfl rfl) ?_
        refine WL.p h (Val.ne rfl rfl) ?_
        refine WL.dec (fun d5 => ?_) (fun d5 => ?_)
        · refine WL.p h Val.mv ?_
          refine WL.p h (Val.fa O79_0 rfl) ?_
          refine WL.p h (Val.ld 1 A3 rfl rfl rfl) ?_
          refine WL.p h (Val.ne rfl rfl) ?_
          refine WL.dec (fun d9 => ?_) (fun d9 => ?_)
          · refine WL.p h (Val.pick rfl) ?_
            refine WL.p h Val.mv ?_
            refine WL.p h (Val.fa O79_1 rfl) ?_
            refine WL.p h (Val.ld 1 A2 rfl rfl rfl) ?_
            refine WL.p h (Val.ne rfl rfl) ?_
            refine WL.dec (fun d14 => ?_) (fun d14 => ?_)
            · refine WL.p h (Val.pick rfl) ?_
              refine WL.p h (Val.pick rfl) ?_
              refine WL.p h Val.mv ?_
              refine WL.no rfl (?_)
              refine WL.no rfl (?_)
              refine WL.no rfl (?_)
              refine WL.no rfl (?_)
              refine WL.no rfl (?_)
              refine WL.no rfl (?_)
              refine WL.no rfl (?_)
              refine WL.no rfl (?_)
              refine WL.p h (Val.pick rfl) ?_
              refine WL.p h Val.mv ?_
              refine WL.no rfl (?_)
              refine WL.no rfl (?_)
              refine WL.no rfl (?_)
              refine WL.no rfl (?_)
              refine WL.no rfl (?_)
              refine WL.no rfl (?_)
              refine WL.no rfl (?_)
              refine WL.no rfl (?_)
              refine WL.no rfl (?_)
              refine WL.no rfl (?_)
              refine WL.no rfl (?_)
              refine WL.no rfl (?_)
              refine WL.no rfl (?_)
              refine WL.p h (Val.pick rfl) ?_
              refine WL.nil ?_
              refine W.condT rfl ?_
              refine W.seq (W.region rfl ?_)
              refine WL.p h Val.as ?_
              refine WL.nil ?_
              refine W.ret ?_
              exact fin1 (v := .bool false) rfl rfl (POk.no h.toExt (hbad (by rintro ⟨x1, x2, x3⟩; first | omega | exact d24 (x2 d20))))
            · refine WL.p h (Val.pick rfl) ?_
              refine WL.p h (Val.pick rfl) ?_
              refine WL.p h Val.mv ?_
              refine WL.p h (Val.fa O79_0 rfl) ?_
              refine WL.p h (Val.ld 1 A3 rfl rfl rfl) ?_
              refine WL.p h (Val.ne rfl rfl) ?_
              refine WL.dec (fun d20 => ?_) (fun d20 => ?_)
              · refine WL.p h Val.mv ?_
                refine WL.p h (Val.fa O79_2 rfl) ?_
                refine WL.p h (Val.ld 1 A9 rfl rfl rfl) ?_
                refine WL.p h (Val.sNe rfl rfl) ?_
                refine WL.dec (fun d24 => ?_) (fun d24 => ?_)
                · refine WL.p h (Val.pick rfl) ?_
                  refine WL.p h (Val.pick rfl) ?_
                  refine WL.p h Val.mv ?_
                  refine WL.no rfl (?_)
                  refine WL.no rfl (?_)
                  refine WL.no rfl (?_)
                  refine WL.no rfl (?_)
                  refine WL.no rfl (?_)
                  refine WL.no rfl (?_)
                  refine WL.no rfl (?_)
                  refine WL.no rfl (?_)
                  refine WL.no rfl (?_)
                  refine WL.no rfl (?_)
                  refine WL.no rfl (?_)
                  refine WL.no rfl (?_)
                  refine WL.no rfl (?_)
                  refine WL.p h (Val.pick rfl) ?_
                  refine WL.nil ?_
                  refine W.condT rfl ?_
                  refine W.seq (W.region rfl ?_)
                  refine WL.p h Val.as ?_
                  refine WL.nil ?_
                  refine W.ret ?_
                  exact fin1 (v := .bool false) rfl rfl (POk.no h.toExt (hbad (by rintro ⟨x1, x2, x3⟩; first | omega | exact d24 (x2 d20))))
                · refine WL.p h (Val.pick rfl) ?_
                  refine WL.p h (Val.pick rfl) ?_
                  refine WL.p h Val.mv ?_
                  refine WL.p h (Val.fa O79_0 rfl) ?_
                  refine WL.p h (Val.ld 1 A3 rfl rfl rfl) ?_
                  refine WL.p h (Val.ne rfl rfl) ?_
                  refine WL.dec (fun d30 => ?_) (fun d30 => ?_)
                  · refine WL.p h Val.mv ?_
                    refine WL.p h (Val.fa O79_0 rfl) ?_
                    refine WL.p h (Val.ld 1 A3 rfl rfl rfl) ?_
                    refine WL.p h (Val.ne rfl rfl) ?_
                    refine WL.dec (fun d34 => ?_) (fun d34 => ?_)
                    · refine WL.p h (Val.pick rfl) ?_
                      refine WL.p h Val.mv ?_
                      refine WL.p h (Val.fa O79_3 rfl) ?_
                      refine WL.p h (Val.ld 1 A3 rfl rfl rfl) ?_
                      refine WL.p h (Val.ne rfl rfl) ?_
                      refine WL.dec (fun d39 => ?_) (fun d39 => ?_)
                      · refine WL.p h (Val.pick rfl) ?_
                        refine WL.p h (Val.pick rfl) ?_
                        refine WL.nil ?_
                        refine W.condT rfl ?_
                        refine W.seq (W.region rfl ?_)
                        refine WL.p h Val.as ?_
                        refine WL.nil ?_
                        refine W.ret ?_
                        exact fin1 (v := .bool false) rfl rfl (POk.no h.toExt (hbad (by rintro ⟨x1, x2, x3⟩; first | omega | exact d24 (x2 d20))))
                      · refine WL.p h (Val.pick rfl) ?_
                        refine WL.p h (Val.pick rfl) ?_
                        refine WL.nil ?_
                        refine W.condF rfl ?_
                        refine W.skip ?_
                        exact ⟨h, rfl, rfl, rfl, rfl, (by intro x y; omega), (by intro x; first | exact absurd x d20 | exact Decidable.not_not.1 d24), (by intro x y; omega)⟩
                    · refine WL.p h (Val.pick rfl) ?_
                      refine WL.p h Val.mv ?_
                      refine WL.no rfl (?_)
                      refine WL.no rfl (?_)
                      refine WL.no rfl (?_)
                      refine WL.p h (Val.pick rfl) ?_
                      refine WL.p h (Val.pick rfl) ?_
                      refine WL.nil ?_
                      refine W.condF rfl ?_
                      refine W.skip ?_
                      exact ⟨h, rfl, rfl, rfl, rfl, (by intro x y; omega), (by intro x; first | exact absurd x d20 | exact Decidable.not_not.1 d24), (by intro x y; omega)⟩
                  · refine WL.p h Val.mv ?_
                    refine WL.no rfl (?_)
                    refine WL.no rfl (?_)
                    refine WL.no rfl (?_)
                    refine WL.p h (Val.pick rfl) ?_
                    refine WL.p h Val.mv ?_
                    refine WL.no rfl (?_)
                    refine WL.no rfl (?_)
                    refine WL.no rfl (?_)
                    refine WL.p h (Val.pick rfl) ?_
                    refine WL.p h (Val.pick rfl) ?_
                    refine WL.nil ?_
                    refine W.condF rfl ?_
                    refine W.skip ?_
                    exact ⟨h, rfl, rfl, rfl, rfl, (by intro x y; omega), (by intro x; first | exact absurd x d20 | exact Decidable.not_not.1 d24), (by intro x y; omega)⟩
              · refine WL.p h Val.mv ?_
                refine WL.no rfl (?_)
                refine WL.no rfl (?_)
                refine WL.no rfl (?_)
                refine WL.p h (Val.pick rfl) ?_
                refine WL.p h (Val.pick rfl) ?_
                refine WL.p h Val.mv ?_
                refine WL.p h (Val.fa O79_0 rfl) ?_
                refine WL.p h (Val.ld 1 A3 rfl rfl rfl) ?_
                refine WL.p h (Val.ne rfl rfl) ?_
                refine WL.dec (fun d30 => ?_) (fun d30 => ?_)
                · refine WL.p h Val.mv ?_
                  refine WL.p h (Val.fa O79_0 rfl) ?_
                  refine WL.p h (Val.ld 1 A3 rfl rfl rfl) ?_
                  refine WL.p h (Val.ne rfl rfl) ?_
                  refine WL.dec (fun d34 => ?_) (fun d34 => ?_)
                  · refine WL.p h (Val.pick rfl) ?_
                    refine WL.p h Val.mv ?_
                    refine WL.p h (Val.fa O79_3 rfl) ?_
                    refine WL.p h (Val.ld 1 A3 rfl rfl rfl) ?_
                    refine WL.p h (Val.ne rfl rfl) ?_
                    refine WL.dec (fun d39 => ?_) (fun d39 => ?_)
                    · refine WL.p h (Val.pick rfl) ?_
                      refine WL.p h (Val.pick rfl) ?_
                      refine WL.nil ?_
                      refine W.condT rfl ?_
                      refine W.seq (W.region rfl ?_)
                      refine WL.p h Val.as ?_
                      refine WL.nil ?_
                      refine W.ret ?_
                      exact fin1 (v := .bool false) rfl rfl (POk.no h.toExt (hbad (by rintro ⟨x1, x2, x3⟩; first | omega | exact d24 (x2 d20))))
                    · refine WL.p h (Val.pick rfl) ?_
                      refine WL.p h (Val.pick rfl) ?_
                      refine WL.nil ?_
                      refine W.condF rfl ?_
                      refine W.skip ?_
                      exact ⟨h, rfl, rfl, rfl, rfl, (by intro x y; omega), (by intro x; first | exact absurd x d20 | exact Decidable.not_not.1 d24), (by intro x y; omega)⟩
                  · refine WL.p h (Val.pick rfl) ?_
                    refine WL.p h Val.mv ?_
                    refine WL.no rfl (?_)
                    refine WL.no rfl (?_)
                    refine WL.no rfl (?_)
                    refine WL.p h (Val.pick rfl) ?_
                    refine WL.p h (Val.pick rfl) ?_
                    refine WL.nil ?_
                    refine W.condF rfl ?_
                    refine W.skip ?_
                    exact ⟨h, rfl, rfl, rfl, rfl, (by intro x y; omega), (by intro x; first | exact absurd x d20 | exact Decidable.not_not.1 d24), (by intro x y; omega)⟩
                · refine WL.p h Val.mv ?_
                  refine WL.no rfl (?_)
                  refine WL.no rfl (?_)
                  refine WL.no rfl (?_)
                  refine WL.p h (Val.pick rfl) ?_
                  refine WL.p h Val.mv ?_
                  refine WL.no rfl (?_)
                  refine WL.no rfl (?_)
                  refine WL.no rfl (?_)
                  refine WL.p h (Val.pick rfl) ?_
                  refine WL.p h (Val.pick rfl) ?_
                  refine WL.nil ?_
                  refine W.condF rfl ?_
                  refine W.skip ?_
                  exact ⟨h, rfl, rfl, rfl, rfl, (by intro x y; omega), (by intro x; first | exact absurd x d20 | exact Decidable.not_not.1 d24), (by intro x y; omega)⟩
          · refine WL.p h (Val.pick rfl) ?_
            refine WL.p h Val.mv ?_
            refine WL.no rfl (?_)
            refine WL.no rfl (?_)
            refine WL.no rfl (?_)
            refine WL.p h (Val.pick rfl) ?_
            refine WL.p h (Val.pick rfl) ?_
            refine WL.p h Val.mv ?_
            refine WL.p h (Val.fa O79_0 rfl) ?_
            refine WL.p h (Val.ld 1 A3 rfl rfl rfl) ?_
            refine WL.p h (Val.ne rfl rfl) ?_
            refine WL.dec (fun d20 => ?_) (fun d20 => ?_)
            · refine WL.p h Val.mv ?_
              refine WL.p h (Val.fa O79_2 rfl) ?_
              refine WL.p h (Val.ld 1 A9 rfl rfl rfl) ?_
              refine WL.p h (Val.sNe rfl rfl) ?_
              refine WL.dec (fun d24 => ?_) (fun d24 => ?_)
              · refine WL.p h (Val.pick rfl) ?_
                refine WL.p h (Val.pick rfl) ?_
                refine WL.p h Val.mv ?_
                refine WL.no rfl (?_)
                refine WL.no rfl (?_)
                refine WL.no rfl (?_)
                refine WL.no rfl (?_)
                refine WL.no rfl (?_)
                refine WL.no rfl (?_)
                refine WL.no rfl (?_)
                refine WL.no rfl (?_)
                refine WL.no rfl (?_)
                refine WL.no rfl (?_)
                refine WL.no rfl (?_)
                refine WL.no rfl (?_)
                refine WL.no rfl (?_)
                refine WL.p h (Val.pick rfl) ?_
                refine WL.nil ?_
                refine W.condT rfl ?_
                refine W.seq (W.region rfl ?_)
                refine WL.p h Val.as ?_
                refine WL.nil ?_
                refine W.ret ?_
                exact fin1 (v := .bool false) rfl rfl (POk.no h.toExt (hbad (by rintro ⟨x1, x2, x3⟩; first | omega | exact d24 (x2 d20))))
              · refine WL.p h (Val.pick rfl) ?_
                refine WL.p h (Val.pick rfl) ?_
                refine WL.p h Val.mv ?_
                refine WL.p h (Val.fa O79_0 rfl) ?_
                refine WL.p h (Val.ld 1 A3 rfl rfl rfl) ?_
                refine WL.p h (Val.ne rfl rfl) ?_
                refine WL.dec (fun d30 => ?_) (fun d30 => ?_)
                · refine WL.p h Val.mv ?_
                  refine WL.p h (Val.fa O79_0 rfl) ?_
                  refine WL.p h (Val.ld 1 A3 rfl rfl rfl) ?_
                  refine WL.p h (Val.ne rfl rfl) ?_
                  refine WL.dec (fun d34 => ?_) (fun d34 => ?_)
                  · refine WL.p h (Val.pick rfl) ?_
                    refine WL.p h Val.mv ?_
                    refine WL.p h (Val.fa O79_3 rfl) ?_
                    refine WL.p h (Val.ld 1 A3 rfl rfl rfl) ?_
                    refine WL.p h (Val.ne rfl rfl) ?_
                    refine WL.dec (fun d39 => ?_) (fun d39 => ?_)
                    · refine WL.p h (Val.pick rfl) ?_
                      refine WL.p h (Val.pick rfl) ?_
                      refine WL.nil ?_
                      refine W.condT rfl ?_
                      refine W.seq (W.region rfl ?_)
                      refine WL.p h Val.as ?_
                      refine WL.nil ?_
                      refine W.ret ?_
                      exact fin1 (v := .bool false) rfl rfl (POk.no h.toExt (hbad (by rintro ⟨x1, x2, x3⟩; first | omega | exact d24 (x2 d20))))
                    · refine WL.p h (Val.pick rfl) ?_
                      refine WL.p h (Val.pick rfl) ?_
                      refine WL.nil ?_
                      refine W.condF rfl ?_
                      refine W.skip ?_
                      exact ⟨h, rfl, rfl, rfl, rfl, (by intro x y; omega), (by intro x; first | exact absurd x d20 | exact Decidable.not_not.1 d24), (by intro x y; omega)⟩
                  · refine WL.p h (Val.pick rfl) ?_
                    refine WL.p h Val.mv ?_
                    refine WL.no rfl (?_)
                    refine WL.no rfl (?_)
                    refine WL.no rfl (?_)
                    refine WL.p h (Val.pick rfl) ?_
                    refine WL.p h (Val.pick rfl) ?_
                    refine WL.nil ?_
                    refine W.condF rfl ?_
                    refine W.skip ?_
                    exact ⟨h, rfl, rfl, rfl, rfl, (by intro x y; omega), (by intro x; first | exact absurd x d20 | exact Decidable.not_not.1 d24), (by intro x y; omega)⟩
                · refine WL.p h Val.mv ?_
                  refine WL.no rfl (?_)
                  refine WL.no rfl (?_)
                  refine WL.no rfl (?_)
                  refine WL.p h (Val.pick rfl) ?_
                  refine WL.p h Val.mv ?_
                  refine WL.no rfl (?_)
                  refine WL.no rfl (?_)
                  refine WL.no rfl (?_)
                  refine WL.p h (Val.pick rfl) ?_
                  refine WL.p h (Val.pick rfl) ?_
                  refine WL.nil ?_
                  refine W.condF rfl ?_
                  refine W.skip ?_
                  exact ⟨h, rfl, rfl, rfl, rfl, (by intro x y; omega), (by intro x; first | exact absurd x d20 | exact Decidable.not_not.1 d24), (by intro x y; omega)⟩
            · refine WL.p h Val.mv ?_
              refine WL.no rfl (?_)
              refine WL.no rfl (?_)
              refine WL.no rfl (?_)
              refine WL.p h (Val.pick rfl) ?_
              refine WL.p h (Val.pick rfl) ?_
              refine WL.p h Val.mv ?_
              refine WL.p h (Val.fa O79_0 rfl) ?_
              refine WL.p h (Val.ld 1 A3 rfl rfl rfl) ?_
              refine WL.p h (Val.ne rfl rfl) ?_
              refine WL.dec (fun d30 => ?_) (fun d30 => ?_)
              · refine WL.p h Val.mv ?_
                refine WL.p h (Val.fa O79_0 rfl) ?_
                refine WL.p h (Val.ld 1 A3 rfl rfl rfl) ?_
                refine WL.p h (Val.ne rfl rfl) ?_
                refine WL.dec (fun d34 => ?_) (fun d34 => ?_)
                · refine WL.p h (Val.pick rfl) ?_
                  refine WL.p h Val.mv ?_
                  refine WL.p h (Val.fa O79_3 rfl) ?_
                  refine WL.p h (Val.ld 1 A3 rfl rfl rfl) ?_
                  refine WL.p h (Val.ne rfl rfl) ?_
                  refine WL.dec (fun d39 => ?_) (fun d39 => ?_)
                  · refine WL.p h (Val.pick rfl) ?_
                    refine WL.p h (Val.pick rfl) ?_
                    refine WL.nil ?_
                    refine W.condT rfl ?_
                    refine W.seq (W.region rfl ?_)
                    refine WL.p h Val.as ?_
                    refine WL.nil ?_
                    refine W.ret ?_
                    exact fin1 (v := .bool false) rfl rfl (POk.no h.toExt (hbad (by rintro ⟨x1, x2, x3⟩; first | omega | exact d24 (x2 d20))))
                  · refine WL.p h (Val.pick rfl) ?_
                    refine WL.p h (Val.pick rfl) ?_
                    refine WL.nil ?_
                    refine W.condF rfl ?_
                    refine W.skip ?_
                    exact ⟨h, rfl, rfl, rfl, rfl, (by intro x y; omega), (by intro x; first | exact absurd x d20 | exact Decidable.not_not.1 d24), (by intro x y; omega)⟩
                · refine WL.p h (Val.pick rfl) ?_
                  refine WL.p h Val.mv ?_
                  refine WL.no rfl (?_)
                  refine WL.no rfl (?_)
                  refine WL.no rfl (?_)
                  refine WL.p h (Val.pick rfl) ?_
                  refine WL.p h (Val.pick rfl) ?_
                  refine WL.nil ?_
                  refine W.condF rfl ?_
                  refine W.skip ?_
                  exact ⟨h, rfl, rfl, rfl, rfl, (by intro x y; omega), (by intro x; first | exact absurd x d20 | exact Decidable.not_not.1 d24), (by intro x y; omega)⟩
              · refine WL.p h Val.mv ?_
                refine WL.no rfl (?_)
                refine WL.no rfl (?_)
                refine WL.no rfl (?_)
                refine WL.p h (Val.pick rfl) ?_
                refine WL.p h Val.mv ?_
                refine WL.no rfl (?_)
                refine WL.no rfl (?_)
                refine WL.no rfl (?_)
                refine WL.p h (Val.pick rfl) ?_
                refine WL.p h (Val.pick rfl) ?_
                refine WL.nil ?_
                refine W.condF rfl ?_
                refine W.skip ?_
                exact ⟨h, rfl, rfl, rfl, rfl, (by intro x y; omega), (by intro x; first | exact absurd x d20 | exact Decidable.not_not.1 d24), (by intro x y; omega)⟩
        · refine WL.p h Val.mv ?_
          refine WL.no rfl (?_)
          refine WL.no rfl (?_)
          refine WL.no rfl (?_)
          refine WL.p h (Val.pick rfl) ?_
          refine WL.p h Val.mv ?_
          refine WL.no rfl (?_)
          refine WL.no rfl (?_)
          refine WL.no rfl (?_)
          refine WL.p h (Val.pick rfl) ?_
          refine WL.p h (Val.pick rfl) ?_
          refine WL.p h Val.mv ?_
          refine WL.p h (Val.fa O79_0 rfl) ?_
          refine WL.p h (Val.ld 1 A3 rfl rfl rfl) ?_
          refine WL.p h (Val.ne rfl rfl) ?_
          refine WL.dec (fun d20 => ?_) (fun d20 => ?_)
          · refine WL.p h Val.mv ?_
            refine WL.p h (Val.fa O79_2 rfl) ?_
            refine WL.p h (Val.ld 1 A9 rfl rfl rfl) ?_
            refine WL.p h (Val.sNe rfl rfl) ?_
            refine WL.dec (fun d24 => ?_) (fun d24 => ?_)
            · refine WL.p h (Val.pick rfl) ?_
              refine WL.p h (Val.pick rfl) ?_
              refine WL.p h Val.mv ?_
              refine WL.no rfl (?_)
              refine WL.no rfl (?_)
              refine WL.no rfl (?_)
              refine WL.no rfl (?_)
              refine WL.no rfl (?_)
              refine WL.no rfl (?_)
              refine WL.no rfl (?_)
              refine WL.no rfl (?_)
              refine WL.no rfl (?_)
              refine WL.no rfl (?_)
              refine WL.no rfl (?_)
              refine WL.no rfl (?_)
              refine WL.no rfl (?_)
              refine WL.p h (Val.pick rfl) ?_
              refine WL.nil ?_
              refine W.condT rfl ?_
              refine W.seq (W.region rfl ?_)
              refine WL.p h Val.as ?_
              refine WL.nil ?_
              refine W.ret ?_
              exact fin1 (v := .bool false) rfl rfl (POk.no h.toExt (hbad (by rintro ⟨x1, x2, x3⟩; first | omega | exact d24 (x2 d20))))
            · refine WL.p h (Val.pick rfl) ?_
              refine WL.p h (Val.pick rfl) ?_
              refine WL.p h Val.mv ?_
              refine WL.p h (Val.fa O79_0 rfl) ?_
              refine WL.p h (Val.ld 1 A3 rfl rfl rfl) ?_
              refine WL.p h (Val.ne rfl rfl) ?_
              refine WL.dec (fun d30 => ?_) (fun d30 => ?_)
              · refine WL.p h Val.mv ?_
                refine WL.p h (Val.fa O79_0 rfl) ?_
                refine WL.p h (Val.ld 1 A3 rfl rfl rfl) ?_
                refine WL.p h (Val.ne rfl rfl) ?_
                refine WL.dec (fun d34 => ?_) (fun d34 => ?_)
                · refine WL.p h (Val.pick rfl) ?_
                  refine WL.p h Val.mv ?_
                  refine WL.p h (Val.fa O79_3 rfl) ?_
                  refine WL.p h (Val.ld 1 A3 rfl rfl rfl) ?_
                  refine WL.p h (Val.ne rfl rfl) ?_
                  refine WL.dec (fun d39 => ?_) (fun d39 => ?_)
                  · refine WL.p h (Val.pick rfl) ?_
                    refine WL.p h (Val.pick rfl) ?_
                    refine WL.nil ?_
                    refine W.condT rfl ?_
                    refine W.seq (W.region rfl ?_)
                    refine WL.p h Val.as ?_
                    refine WL.nil ?_
                    refine W.ret ?_
                    exact fin1 (v := .bool false) rfl rfl (POk.no h.toExt (hbad (by rintro ⟨x1, x2, x3⟩; first | omega | exact d24 (x2 d20))))
                  · refine WL.p h (Val.pick rfl) ?_
                    refine WL.p h (Val.pick rfl) ?_
                    refine WL.nil ?_
                    refine W.condF rfl ?_
                    refine W.skip ?_
                    exact ⟨h, rfl, rfl, rfl, rfl, (by intro x y; omega), (by intro x; first | exact absurd x d20 | exact Decidable.not_not.1 d24), (by intro x y; omega)⟩
                · refine WL.p h (Val.pick rfl) ?_
                  refine WL.p h Val.mv ?_
                  refine WL.no rfl (?_)
                  refine WL.no rfl (?_)
                  refine WL.no rfl (?_)
                  refine WL.p h (Val.pick rfl) ?_
                  refine WL.p h (Val.pick rfl) ?_
                  refine WL.nil ?_
                  refine W.condF rfl ?_
                  refine W.skip ?_
                  exact ⟨h, rfl, rfl, rfl, rfl, (by intro x y; omega), (by intro x; first | exact absurd x d20 | exact Decidable.not_not.1 d24), (by intro x y; omega)⟩
              · refine WL.p h Val.mv ?_
                refine WL.no rfl (?_)
                refine WL.no rfl (?_)
                refine WL.no rfl (?_)
                refine WL.p h (Val.pick rfl) ?_
                refine WL.p h Val.mv ?_
                refine WL.no rfl (?_)
                refine WL.no rfl (?_)
                refine WL.no rfl (?_)
                refine WL.p h (Val.pick rfl) ?_
                refine WL.p h (Val.pick rfl) ?_
                refine WL.nil ?_
                refine W.condF rfl ?_
                refine W.skip ?_
                exact ⟨h, rfl, rfl, rfl, rfl, (by intro x y; omega), (by intro x; first | exact absurd x d20 | exact Decidable.not_not.1 d24), (by intro x y; omega)⟩
          · refine WL.p h Val.mv ?_
            refine WL.no rfl (?_)
            refine WL.no rfl (?_)
            refine WL.no rfl (?_)
            refine WL.p h (Val.pick rfl) ?_
            refine WL.p h (Val.pick rfl) ?_
            refine WL.p h Val.mv ?_
            refine WL.p h (Val.fa O79_0 rfl) ?_
            refine WL.p h (Val.ld 1 A3 rfl rfl rfl) ?_
            refine WL.p h (Val.ne rfl rfl) ?_
            refine WL.dec (fun d30 => ?_) (fun d30 => ?_)
            · refine WL.p h Val.mv ?_
              refine WL.p h (Val.fa O79_0 rfl) ?_
              refine WL.p h (Val.ld 1 A3 rfl rfl rfl) ?_
              refine WL.p h (Val.ne rfl rfl) ?_
              refine WL.dec (fun d34 => ?_) (fun d34 => ?_)
              · refine WL.p h (Val.pick rfl) ?_
                refine WL.p h Val.mv ?_
                refine WL.p h (Val.fa O79_3 rfl) ?_
                refine WL.p h (Val.ld 1 A3 rfl rfl rfl) ?_
                refine WL.p h (Val.ne rfl rfl) ?_
                refine WL.dec (fun d39 => ?_) (fun d39 => ?_)
                · refine WL.p h (Val.pick rfl) ?_
                  refine WL.p h (Val.pick rfl) ?_
                  refine WL.nil ?_
                  refine W.condT rfl ?_
                  refine W.seq (W.region rfl ?_)
                  refine WL.p h Val.as ?_
                  refine WL.nil ?_
                  refine W.ret ?_
                  exact fin1 (v := .bool false) rfl rfl (POk.no h.toExt (hbad (by rintro ⟨x1, x2, x3⟩; first | omega | exact d24 (x2 d20))))
                · refine WL.p h (Val.pick rfl) ?_
                  refine WL.p h (Val.pick rfl) ?_
                  refine WL.nil ?_
                  refine W.condF rfl ?_
                  refine W.skip ?_
                  exact ⟨h, rfl, rfl, rfl, rfl, (by intro x y; omega), (by intro x; first | exact absurd x d20 | exact Decidable.not_not.1 d24), (by intro x y; omega)⟩
              · refine WL.p h (Val.pick rfl) ?_
                refine WL.p h Val.mv ?_
                refine WL.no rfl (?_)
                refine WL.no rfl (?_)
                refine WL.no rfl (?_)
                refine WL.p h (Val.pick rfl) ?_
                refine WL.p h (Val.pick rfl) ?_
                refine WL.nil ?_
                refine W.condF rfl ?_
                refine W.skip ?_
                exact ⟨h, rfl, rfl, rfl, rfl, (by intro x y; omega), (by intro x; first | exact absurd x d20 | exact Decidable.not_not.1 d24), (by intro x y; omega)⟩
            · refine WL.p h Val.mv ?_
              refine WL.no rfl (?_)
              refine WL.no rfl (?_)
              refine WL.no rfl (?_)
              refine WL.p h (Val.pick rfl) ?_
              refine WL.p h Val.mv ?_
              refine WL.no rfl (?_)
              refine WL.no rfl (?_)
              refine WL.no rfl (?_)
              refine WL.p h (Val.pick rfl) ?_
              refine WL.p h (Val.pick rfl) ?_
              refine WL.nil ?_
              refine W.condF rfl ?_
              refine W.skip ?_
              exact ⟨h, rfl, rfl, rfl, rfl, (by intro x y; omega), (by intro x; first | exact absurd x d20 | exact Decidable.not_not.1 d24), (by intro x y; omega)⟩
      clear h
      obtain ⟨h, h1, h2, h5, h7, hplain⟩ := hJ
      refine W.cut (L2 w0 F F' v u b2 b7 above a' ks) (W.seq (W.region rfl ?_)) (fun R w hJ => ?_)
      · have hk0 : a'.k ≠ 5 → a'.k ≠ 6 → ks = [] := fun x y => List.eq_nil_of_length_eq_zero (by have := hplain.2.2 x y; omega)
        have hts0 : ks = [] → okTs ks (above + 1) := fun e => by rw [e]; trivial
        refine WL.p h (Val.fa O79_0 h7) ?_
        refine WL.p h (Val.ld 1 A3 rfl rfl rfl) ?_
        refine WL.nil ?_
        refine W.block ?_
        refine W.seq (W.seq (W.region rfl ?_))
        refine WL.p h (Val.eq rfl rfl) ?_
        refine WL.dec (fun k1 => ?_) (fun k1 => ?_)
        · refine WL.p h Val.as ?_
          refine WL.nil ?_
          refine W.condT rfl ?_
          refine W.skip ?_
          refine W.condT rfl ?_
          refine W.skip ?_
          exact ⟨h, h1, h5, .inl k1⟩
        refine WL.p h Val.as ?_
        refine WL.nil ?_
        refine W.condF rfl ?_
        refine W.region rfl ?_
        refine WL.p h (Val.eq rfl rfl) ?_
        refine WL.dec (fun k3 => ?_) (fun k3 => ?_)
        · refine WL.p h Val.as ?_
          refine WL.nil ?_
          refine W.condT rfl ?_
          refine W.skip ?_
          exact ⟨h, h1, h5, .inr (.inl k3)⟩
        refine WL.p h Val.as ?_
        refine WL.nil ?_
        refine W.condF rfl ?_
        refine W.seq (W.region rfl ?_)
        refine WL.p h (Val.eq rfl rfl) ?_
        refine WL.dec (fun k2 => ?_) (fun k2 => ?_)
        · refine WL.p h Val.as ?_
          refine WL.nil ?_
          refine W.condT rfl ?_
          refine W.seq (W.region rfl ?_)
          refine WL.p h (Val.fa O79_1 h7) ?_
          refine WL.p h (Val.ld 1 A2 rfl rfl rfl) ?_
          refine WL.p h (Val.eq rfl rfl) ?_
          refine WL.dec (fun m0 => ?_) (fun m0 => ?_)
          · refine WL.p h Val.mv ?_
            refine WL.no rfl (WL.no rfl (WL.no rfl (?_)))
            refine WL.p h (Val.pick rfl) ?_
            refine WL.p h Val.as ?_
            refine WL.nil ?_
            refine W.ret ?_
            exact fin1 (v := .bool true) rfl rfl (POk.yes h.toExt (hyes hplain (.inr (.inr (.inl ⟨k2, .inl m0⟩))) (hts0 (hk0 (by omega) (by omega)))))
          refine WL.p h Val.mv ?_
          refine WL.p h (Val.fa O79_1 h7) ?_
          refine WL.p h (Val.ld 1 A2 rfl rfl rfl) ?_
          refine WL.p h (Val.eq rfl rfl) ?_
          refine WL.dec (fun m1 => ?_) (fun m1 => ?_)
          · refine WL.p h (Val.pick rfl) ?_
            refine WL.p h Val.as ?_
            refine WL.nil ?_
            refine W.ret ?_
            exact fin1 (v := .bool true) rfl rfl (POk.yes h.toExt (hyes hplain (.inr (.inr (.inl ⟨k2, .inr m1⟩))) (hts0 (hk0 (by omega) (by omega)))))
          · refine WL.p h (Val.pick rfl) ?_
            refine WL.p h Val.as ?_
            refine WL.nil ?_
            refine W.ret ?_
            exact fin1 (v := .bool false) rfl rfl (POk.no h.toExt (hbadk (by unfold Kind; omega)))
        refine WL.p h Val.as ?_
        refine WL.nil ?_
        refine W.condF rfl ?_
        refine W.seq (W.region rfl ?_)
        refine WL.p h (Val.eq rfl rfl) ?_
        refine WL.dec (fun k4 => ?_) (fun k4 => ?_)
        · refine WL.p h Val.as ?_
          refine WL.nil ?_
          refine W.condT rfl ?_
          refine W.seq (W.region rfl ?_)
          refine WL.p h (Val.fa O79_2 h7) ?_
          refine WL.p h (Val.ld 1 A9 rfl rfl rfl) ?_
          refine WL.p h (Val.lenStr Tryz.underlying9 rfl) ?_
          refine WL.p h (Val.le rfl rfl) ?_
          refine WL.dec (fun m0 => ?_) (fun m0 => ?_)
          · refine WL.p h Val.as ?_
            refine WL.nil ?_
            refine W.ret ?_
            exact fin1 (v := .bool true) rfl rfl (POk.yes h.toExt (hyes hplain (.inr (.inr (.inr (.inl ⟨k4, by omega⟩)))) (hts0 (hk0 (by omega) (by omega)))))
          · refine WL.p h Val.as ?_
            refine WL.nil ?_
            refine W.ret ?_
            exact fin1 (v := .bool false) rfl rfl (POk.no h.toExt (hbadk (by unfold Kind; omega)))
        refine WL.p h Val.as ?_
        refine WL.nil ?_
        refine W.condF rfl ?_
        refine W.seq (W.region rfl ?_)
        refine WL.p h (Val.eq rfl rfl) ?_
        refine WL.dec (fun k5 => ?_) (fun k5 => ?_)
        · refine WL.p h Val.as ?_
          refine WL.nil ?_
          refine W.condT rfl ?_
          refine W.seq (W.region rfl ?_)
          refine WL.p h (Val.fa O79_3 h7) ?_
          refine WL.p h (Val.ld 1 A3 rfl rfl rfl) ?_
          refine WL.p h (Val.gt rfl rfl) ?_
          refine WL.dec (fun m0 => ?_) (fun m0 => ?_)
          · refine WL.nil ?_
            refine W.condT rfl ?_
            refine W.seq (W.region rfl ?_)
            refine WL.p h Val.as ?_
            refine WL.nil ?_
            refine W.ret ?_
            exact fin1 (v := .bool false) rfl rfl (POk.no h.toExt (hbadk (by unfold Kind; omega)))
          refine WL.nil ?_
          refine W.condF rfl ?_
          refine W.skip ?_
          exact ⟨h, h1, h5, .inr (.inr (.inr (.inr (.inl ⟨k5, by omega⟩))))⟩
        refine WL.p h Val.as ?_
        refine WL.nil ?_
        refine W.condF rfl ?_
        refine W.seq (W.region rfl ?_)
        refine WL.p h (Val.eq rfl rfl) ?_
        refine WL.dec (fun k6 => ?_) (fun k6 => ?_)
        · refine WL.p h Val.as ?_
          refine WL.nil ?_
          refine W.condT rfl ?_
          refine W.seq (W.seq (W.region rfl ?_))
          refine WL.p h (Val.fa O79_3 h7) ?_
          refine WL.p h (Val.ld 1 A3 rfl rfl rfl) ?_
          refine WL.p h (Val.rem rfl rfl (by decide)) ?_
          refine WL.p h (Val.ne rfl rfl) ?_
          refine WL.dec (fun m0 => ?_) (fun m0 => ?_)
          · refine WL.p h Val.mv ?_
            refine WL.no rfl (WL.no rfl (WL.no rfl (?_)))
            refine WL.p h (Val.pick rfl) ?_
            refine WL.nil ?_
            refine W.condT rfl ?_
            refine W.seq (W.region rfl ?_)
            refine WL.p h Val.as ?_
            refine WL.nil ?_
            refine W.ret ?_
            exact fin1 (v := .bool false) rfl rfl (POk.no h.toExt (hbadk (by rintro (e | e | ⟨e, _⟩ | ⟨e, _⟩ | ⟨e, _⟩ | ⟨_, e, _⟩) <;> first | omega | exact m0 e)))
          refine WL.p h Val.mv ?_
          refine WL.p h (Val.fa O79_3 h7) ?_
          refine WL.p h (Val.ld 1 A3 rfl rfl rfl) ?_
          refine WL.p h (Val.gt rfl rfl) ?_
          refine WL.dec (fun m1 => ?_) (fun m1 => ?_)
          · refine WL.p h (Val.pick rfl) ?_
            refine WL.nil ?_
            refine W.condT rfl ?_
            refine W.seq (W.region rfl ?_)
            refine WL.p h Val.as ?_
            refine WL.nil ?_
            refine W.ret ?_
            exact fin1 (v := .bool false) rfl rfl (POk.no h.toExt (hbadk (by rintro (e | e | ⟨e, _⟩ | ⟨e, _⟩ | ⟨e, _⟩ | ⟨_, _, e, _⟩) <;> omega)))
          refine WL.p h (Val.pick rfl) ?_
          refine WL.nil ?_
          refine W.condF rfl ?_
          refine W.skip ?_
          have hmod : a'.c.tmod 2 = 0 := Decidable.not_not.1 m0
          obtain ⟨q, hq⟩ : ∃ q, ks.length = 2 * q := ⟨ks.length / 2, by rw [Int.tmod_eq_emod_of_nonneg (by omega)] at hmod; omega⟩
          refine W.seq (W.region rfl ?_)
          refine WL.p h Val.as ?_
          refine WL.nil ?_
          refine W.block ?_
          refine W.loop (L3 w0 F F' v u b2 b7 above a' ks q) q ?_ (fun m R w hI => ?_)
          · exact ⟨0, by omega, h, h1, h5, rfl, fun i x hi => by omega⟩
          clear h h1 h2 h5 h7
          obtain ⟨j, hm, h, h1, h5, h8, hpairs⟩ := hI
          refine W.seq (W.seq (W.region rfl ?_))
          refine WL.p h Val.mv ?_
          refine WL.p h Val.mv ?_
          refine WL.p h (Val.len Tryz.underlying74 h5 hrow.val) ?_
          refine WL.p h (Val.lt h8 rfl) ?_
          refine WL.dec (fun c9 => ?_) (fun c9 => ?_)
          · have hj : 2 * j < ks.length := by omega
            obtain ⟨x, hx⟩ : ∃ x, ks[2 * j]? = some x := ⟨_, List.getElem?_eq_getElem hj⟩
            obtain ⟨s, hs, hrs⟩ := hkr.get _ _ hx
            refine WL.nil ?_
            refine W.condT rfl ?_
            refine W.skip ?_
            refine W.cut (L3c w0 F F' v u b2 b7 above a' ks j) (W.block (W.seq (W.draw (fun w => Hp w0 F F' [.box b2 [v] 45, .box b7 a'.cells 78] w) [] 27 (by kernel_rfl) rfl rfl ?_))) (fun R w hJ => ?_)
            · have hS := h.drewN 1
              refine WD.take 0 rfl (by kernel_rfl) (fun _ _ _ h => fin_panic h) hS Val.mv ?_
              refine WD.take 1 rfl (by kernel_rfl) (fun _ _ _ h => fin_panic h) hS Val.mv ?_
              refine WD.take 2 rfl (by kernel_rfl) (fun _ _ _ h => fin_panic h) hS (Val.ix Tryz.underlying74 T42 h5 h8 (hrow.slice (by omega)) hj) ?_
              refine WD.take 3 rfl (by kernel_rfl) (fun _ _ _ h => fin_panic h) hS (Val.ldRS A42 T42 hrow rfl rfl (cs := [s]) (one_cell hs)) ?_
              refine WD.one 4 rfl (by kernel_rfl) ?_
              refine WL.call C48 (args := [.agg #[s]]) rfl ((l5Last_calls F' _ hS.sub s x.enc hrs x.atom (enc_last x)).mono ?_)
              rintro e w' ⟨rfl, hE⟩
              have hS := hS.call hE
              refine ⟨_, rfl, ?_⟩
              refine WL.nil ?_
              refine ⟨hS, ?_⟩
              refine WD.take 5 rfl (by kernel_rfl) (fun _ _ _ h => fin_panic h) hS (Val.fld E79_0 rfl rfl) ?_
              refine WD.take 6 rfl (by kernel_rfl) (fun _ _ _ h => fin_panic h) hS (Val.ne rfl rfl) ?_
              refine WD.dec (fun q1 => ?_) (fun q1 => ?_)
              · refine WD.take 7 rfl (by kernel_rfl) (fun _ _ _ h => fin_panic h) hS Val.mv ?_
                refine WD.skip 8 rfl (by kernel_rfl) (fun _ _ _ h => fin_panic h) hS rfl ?_
                refine WD.skip 9 rfl (by kernel_rfl) (fun _ _ _ h => fin_panic h) hS rfl ?_
                refine WD.skip 10 rfl (by kernel_rfl) (fun _ _ _ h => fin_panic h) hS rfl ?_
                refine WD.skip 11 rfl (by kernel_rfl) (fun _ _ _ h => fin_panic h) hS rfl ?_
                refine WD.skip 12 rfl (by kernel_rfl) (fun _ _ _ h => fin_panic h) hS rfl ?_
                refine WD.skip 13 rfl (by kernel_rfl) (fun _ _ _ h => fin_panic h) hS rfl ?_
                refine WD.skip 14 rfl (by kernel_rfl) (fun _ _ _ h => fin_panic h) hS rfl ?_
                refine WD.skip 15 rfl (by kernel_rfl) (fun _ _ _ h => fin_panic h) hS rfl ?_
                refine WD.skip 16 rfl (by kernel_rfl) (fun _ _ _ h => fin_panic h) hS rfl ?_
                refine WD.skip 17 rfl (by kernel_rfl) (fun _ _ _ h => fin_panic h) hS rfl ?_
                refine WD.skip 18 rfl (by kernel_rfl) (fun _ _ _ h => fin_panic h) hS rfl ?_
                refine WD.skip 19 rfl (by kernel_rfl) (fun _ _ _ h => fin_panic h) hS rfl ?_
                refine WD.skip 20 rfl (by kernel_rfl) (fun _ _ _ h => fin_panic h) hS rfl ?_
                refine WD.skip 21 rfl (by kernel_rfl) (fun _ _ _ h => fin_panic h) hS rfl ?_
                refine WD.skip 22 rfl (by kernel_rfl) (fun _ _ _ h => fin_panic h) hS rfl ?_
                refine WD.skip 23 rfl (by kernel_rfl) (fun _ _ _ h => fin_panic h) hS rfl ?_
                refine WD.skip 24 rfl (by kernel_rfl) (fun _ _ _ h => fin_panic h) hS rfl ?_
                refine WD.skip 25 rfl (by kernel_rfl) (fun _ _ _ h => fin_panic h) hS rfl ?_
                refine WD.take 26 rfl (by kernel_rfl) (fun _ _ _ h => fin_panic h) hS (Val.pick rfl) ?_
                refine WD.nil (by kernel_rfl) ?_
                have h := hS
                refine W.condT rfl ?_
                refine W.seq (W.region rfl ?_)
                refine WL.p h Val.as ?_
                refine WL.nil ?_
                refine W.ret ?_
                refine fin1 (v := .bool false) rfl rfl (POk.no h.toExt (hbadk ?_))
                rintro (e | e | ⟨e, _⟩ | ⟨e, _⟩ | ⟨e, _⟩ | ⟨_, _, _, e⟩) <;> first | omega | exact q1 (e j x hx).1
              refine WD.take 7 rfl (by kernel_rfl) (fun _ _ _ h => fin_panic h) hS Val.mv ?_
              refine WD.take 8 rfl (by kernel_rfl) (fun _ _ _ h => fin_panic h) hS Val.mv ?_
              refine WD.take 9 rfl (by kernel_rfl) (fun _ _ _ h => fin_panic h) hS (Val.gt h8 rfl) ?_
              refine WD.dec (fun q2 => ?_) (fun q2 => ?_)
              · obtain ⟨y, hy⟩ : ∃ y, ks[2 * (j - 1)]? = some y := ⟨_, List.getElem?_eq_getElem (by omega)⟩
                obtain ⟨s', hs', hrs'⟩ := hkr.get _ _ hy
                refine WD.take 10 rfl (by kernel_rfl) (fun _ _ _ h => fin_panic h) hS Val.mv ?_
                refine WD.take 11 rfl (by kernel_rfl) (fun _ _ _ h => fin_panic h) hS Val.mv ?_
                refine WD.take 12 rfl (by kernel_rfl) (fun _ _ _ h => fin_panic h) hS Val.mv ?_
                refine WD.take 13 rfl (by kernel_rfl) (fun _ _ _ h => fin_panic h) hS (Val.subi (c := ((2 * (j - 1) : Nat) : Int)) h8 rfl (by omega)) ?_
                refine WD.take 14 rfl (by kernel_rfl) (fun _ _ _ h => fin_panic h) hS (Val.ix Tryz.underlying74 T42 h5 rfl (hrow.slice (by omega)) (by omega)) ?_
                refine WD.take 15 rfl (by kernel_rfl) (fun _ _ _ h => fin_panic h) hS (Val.ldRS A42 T42 hrow rfl rfl (cs := [s']) (one_cell hs')) ?_
                refine WD.take 18 rfl (by kernel_rfl) (fun _ _ _ h => fin_panic h) hS Val.mv ?_
                refine WD.take 19 rfl (by kernel_rfl) (fun _ _ _ h => fin_panic h) hS Val.mv ?_
                refine WD.take 20 rfl (by kernel_rfl) (fun _ _ _ h => fin_panic h) hS (Val.ix Tryz.underlying74 T42 h5 h8 (hrow.slice (by omega)) hj) ?_
                refine WD.take 21 rfl (by kernel_rfl) (fun _ _ _ h => fin_panic h) hS (Val.ldRS A42 T42 hrow rfl rfl (cs := [s]) (one_cell hs)) ?_
                refine WD.one 16 rfl (by kernel_rfl) ?_
                refine WL.call C48 (args := [.agg #[s']]) rfl ((l5Last_calls F' _ hS.sub s' y.enc hrs' y.atom (enc_last y)).mono ?_)
                rintro e w' ⟨rfl, hE⟩
                have hS := hS.call hE
                refine ⟨_, rfl, ?_⟩
                refine WL.nil ?_
                refine ⟨hS, ?_⟩
                refine WD.take 17 rfl (by kernel_rfl) (fun _ _ _ h => fin_panic h) hS (Val.fld E79_2 rfl rfl) ?_
                refine WD.one 22 rfl (by kernel_rfl) ?_
                refine WL.call C48 (args := [.agg #[s]]) rfl ((l5Last_calls F' _ hS.sub s x.enc hrs x.atom (enc_last x)).mono ?_)
                rintro e w' ⟨rfl, hE⟩
                have hS := hS.call hE
                refine ⟨_, rfl, ?_⟩
                refine WL.nil ?_
                refine ⟨hS, ?_⟩
                refine WD.take 23 rfl (by kernel_rfl) (fun _ _ _ h => fin_panic h) hS (Val.fld E79_2 rfl rfl) ?_
                refine WD.take 24 rfl (by kernel_rfl) (fun _ _ _ h => fin_panic h) hS (Val.strGe rfl rfl) ?_
                refine WD.decB (fun q3 => ?_) (fun q3 => ?_)
                · refine WD.take 25 rfl (by kernel_rfl) (fun _ _ _ h => fin_panic h) hS (Val.pick rfl) ?_
                  refine WD.take 26 rfl (by kernel_rfl) (fun _ _ _ h => fin_panic h) hS (Val.pick rfl) ?_
                  refine WD.nil (by kernel_rfl) ?_
                  have h := hS
                  refine W.condT rfl ?_
                  refine W.seq (W.region rfl ?_)
                  refine WL.p h Val.as ?_
                  refine WL.nil ?_
                  refine W.ret ?_
                  refine fin1 (v := .bool false) rfl rfl (POk.no h.toExt (hbadk ?_))
                  rintro (e | e | ⟨e, _⟩ | ⟨e, _⟩ | ⟨e, _⟩ | ⟨_, _, _, e⟩) <;> first | omega | (have := (e j x hx).2 y (by omega) hy; rw [this] at q3; cases q3)
                · refine WD.take 25 rfl (by kernel_rfl) (fun _ _ _ h => fin_panic h) hS (Val.pick rfl) ?_
                  refine WD.take 26 rfl (by kernel_rfl) (fun _ _ _ h => fin_panic h) hS (Val.pick rfl) ?_
                  refine WD.nil (by kernel_rfl) ?_
                  refine W.condF rfl ?_
                  refine W.skip ?_
                  exact ⟨hS, h1, h5, h8, fun z hz => by rw [hx] at hz; cases hz; exact ⟨Decidable.not_not.1 q1, fun y' _ hy' => by rw [hy] at hy'; cases hy'; simpa using q3⟩⟩
              · refine WD.take 10 rfl (by kernel_rfl) (fun _ _ _ h => fin_panic h) hS Val.mv ?_
                refine WD.skip 11 rfl (by kernel_rfl) (fun _ _ _ h => fin_panic h) hS rfl ?_
                refine WD.skip 12 rfl (by kernel_rfl) (fun _ _ _ h => fin_panic h) hS rfl ?_
                refine WD.skip 13 rfl (by kernel_rfl) (fun _ _ _ h => fin_panic h) hS rfl ?_
                refine WD.skip 14 rfl (by kernel_rfl) (fun _ _ _ h => fin_panic h) hS rfl ?_
                refine WD.skip 15 rfl (by kernel_rfl) (fun _ _ _ h => fin_panic h) hS rfl ?_
                refine WD.skip 16 rfl (by kernel_rfl) (fun _ _ _ h => fin_panic h) hS rfl ?_
                refine WD.skip 17 rfl (by kernel_rfl) (fun _ _ _ h => fin_panic h) hS rfl ?_
                refine WD.skip 18 rfl (by kernel_rfl) (fun _ _ _ h => fin_panic h) hS rfl ?_
                refine WD.skip 19 rfl (by kernel_rfl) (fun _ _ _ h => fin_panic h) hS rfl ?_
                refine WD.skip 20 rfl (by kernel_rfl) (fun _ _ _ h => fin_panic h) hS rfl ?_
                refine WD.skip 21 rfl (by kernel_rfl) (fun _ _ _ h => fin_panic h) hS rfl ?_
                refine WD.skip 22 rfl (by kernel_rfl) (fun _ _ _ h => fin_panic h) hS rfl ?_
                refine WD.skip 23 rfl (by kernel_rfl) (fun _ _ _ h => fin_panic h) hS rfl ?_
                refine WD.skip 24 rfl (by kernel_rfl) (fun _ _ _ h => fin_panic h) hS rfl ?_
                refine WD.take 25 rfl (by kernel_rfl) (fun _ _ _ h => fin_panic h) hS (Val.pick rfl) ?_
                refine WD.take 26 rfl (by kernel_rfl) (fun _ _ _ h => fin_panic h) hS (Val.pick rfl) ?_
                refine WD.nil (by kernel_rfl) ?_
                refine W.condF rfl ?_
                refine W.skip ?_
                exact ⟨hS, h1, h5, h8, fun z hz => by rw [hx] at hz; cases hz; exact ⟨Decidable.not_not.1 q1, fun y hy => by omega⟩⟩
            clear h h1 h5 h8
            obtain ⟨h, h1, h5, h8, hnew⟩ := hJ
            refine W.region rfl ?_
            refine WL.p h Val.mv ?_
            refine WL.p h (Val.addi (c := ((2 * (j + 1) : Nat) : Int)) h8 rfl (by omega)) ?_
            refine WL.p h Val.as ?_
            refine WL.nil ?_
            refine ⟨m - 1, by omega, j + 1, by omega, h, h1, h5, rfl, fun i z hi hz => ?_⟩
            by_cases hij : i < j
            · exact hpairs i z hij hz
            · have hij' : i = j := by omega
              rw [hij'] at hz ⊢
              exact hnew z hz
          · refine WL.nil ?_
            refine W.condF rfl ?_
            refine W.exit ?_
            exact ⟨h, h1, h5, .inr (.inr (.inr (.inr (.inr ⟨k6, hmod, by omega, fun i x hx => hpairs i x (by have := (List.getElem?_eq_some_iff.1 hx).1; omega) hx⟩))))⟩
        refine WL.p h Val.as ?_
        refine WL.nil ?_
        refine W.condF rfl ?_
        refine W.seq (W.region rfl ?_)
        refine WL.p h Val.as ?_
        refine WL.nil ?_
        refine W.ret ?_
        exact fin1 (v := .bool false) rfl rfl (POk.no h.toExt (hbadk (by unfold Kind; omega)))
      clear h h1 h2 h5 h7
      obtain ⟨h, h1, h5, hkind⟩ := hJ
      refine W.seq (W.seq (W.region rfl ?_))
      refine WL.p h Val.as ?_
      refine WL.nil ?_
      refine W.block ?_
      refine W.loop (L4 w0 F F' v u b2 b7 above a' ks) ks.length ?_ (fun m R w hI => ?_)
      · exact ⟨0, by omega, h, h1, h5, rfl, fun i k hi => by omega⟩
      clear h h1 h5
      obtain ⟨j, hm, h, h1, h5, h9, hall⟩ := hI
      refine W.seq (W.seq (W.region rfl ?_))
      refine WL.p h Val.mv ?_
      refine WL.p h Val.mv ?_
      refine WL.p h (Val.len Tryz.underlying74 h5 hrow.val) ?_
      refine WL.p h (Val.lt h9 rfl) ?_
      refine WL.dec (fun c9 => ?_) (fun c9 => ?_)
      · obtain ⟨k, hkj⟩ : ∃ k, ks[j]? = some k := ⟨_, List.getElem?_eq_getElem (by omega)⟩
        obtain ⟨s, hs, hrs⟩ := hkr.get _ _ hkj
        have hkl := enc_le ks hkj
        have hkwf := hkw k (List.mem_of_getElem? hkj)
        refine WL.nil ?_
        refine W.condT rfl ?_
        refine W.skip ?_
        refine W.seq (W.block ?_)
        refine W.seq (W.region rfl ?_)
        refine WL.p h Val.mv ?_
        refine WL.p h Val.mv ?_
        refine WL.p h (Val.ix Tryz.underlying74 T42 h5 h9 (hrow.slice (by omega)) (by omega)) ?_
        refine WL.p h (Val.ldRS A42 T42 hrow rfl rfl (cs := [s]) (one_cell hs)) ?_
        refine WL.p h Val.mv ?_
        refine WL.p h (Val.addi h1 rfl ⟨rfl, by omega, by omega⟩) ?_
        refine WL.call C40 (args := [.agg #[s], .int .i64 (above + 1)]) rfl ((ih k.enc.length (by omega) F' w h.sub s k.enc hrs (by omega) (above + 1) (by omega) (by omega) (Nat.le_refl _)).mono ?_)
        rintro e w' ⟨b, rfl, hb, hE⟩
        have h := h.call hE
        rw [okP_enc k hkwf] at hb
        refine ⟨_, rfl, ?_⟩
        refine WL.p h (Val.not rfl) ?_
        refine WL.nil ?_
        cases b with
        | false =>
          refine W.condT rfl ?_
          refine W.seq (W.region rfl ?_)
          refine WL.p h Val.as ?_
          refine WL.nil ?_
          refine W.ret ?_
          refine fin1 (v := .bool false) rfl rfl (POk.no h.toExt ?_)
          rw [hP, okT, okTs_iff]
          rintro ⟨_, _, _, hh⟩
          have := hb.2 (hh j k hkj)
          cases this
        | true =>
          refine W.condF rfl ?_
          refine W.skip ?_
          refine W.region rfl ?_
          refine WL.p h Val.mv ?_
          refine WL.p h (Val.addi (c := ((j + 1 : Nat) : Int)) h9 rfl (by omega)) ?_
          refine WL.p h Val.as ?_
          refine WL.nil ?_
          refine ⟨m - 1, by omega, j + 1, by omega, h, h1, h5, rfl, fun i k' hi hk' => ?_⟩
          by_cases hij : i < j
          · exact hall i k' hij hk'
          · obtain rfl : i = j := by omega
            rw [hkj] at hk'
            cases hk'
            exact hb.1 rfl
      · refine WL.nil ?_
        refine W.condF rfl ?_
        refine W.exit ?_
        refine W.seq (W.region rfl ?_)
        refine WL.p h Val.as ?_
        refine WL.nil ?_
        refine W.ret ?_
        exact fin1 (v := .bool true) rfl rfl (POk.yes h.toExt (hyes hplain hkind ((okTs_iff _ _).2 fun i k hi => hall i k (by have := (List.getElem?_eq_some_iff.1 hi).1; omega) hi)))
end Go.Proofs.YtmiihhbgfijcmaaGreat.K


