/- The order of trees is a total order of valid trees. -/
import Derived.Test.YtmiihhbgfijcmaaGreatOr
namespace Go.Proofs.YtmiihhbgfijcmaaGreat.K
open Go Go.RowKit
set_option linter.unusedVariables false

theorem cb_anti : ∀ (a b : List UInt8), Lib.compareBytes b a = - Lib.compareBytes a b
  | [], [] => rfl
  | [], _ :: _ => rfl
  | _ :: _, [] => rfl
  | a :: x, b :: y => by
    simp only [Lib.compareBytes]
    by_cases h1 : a < b
    · have h2 : ¬ b < a := UInt8.not_lt.2 (UInt8.le_of_lt h1)
      simp [h1, h2]
    · by_cases h2 : b < a
      · simp [h1, h2]
      · simp only [if_neg h1, if_neg h2]; exact cb_anti x y
theorem cb_zero : ∀ (a b : List UInt8), Lib.compareBytes a b = 0 → a = b
  | [], [], _ => rfl
  | [], _ :: _, h => by simp [Lib.compareBytes] at h
  | _ :: _, [], h => by simp [Lib.compareBytes] at h
  | a :: x, b :: y, h => by
    simp only [Lib.compareBytes] at h
    by_cases h1 : a < b
    · simp [h1] at h
    · by_cases h2 : b < a
      · simp [h1, h2] at h
      · simp only [if_neg h1, if_neg h2] at h
        rw [UInt8.le_antisymm (UInt8.not_lt.1 h2) (UInt8.not_lt.1 h1), cb_zero x y h]
theorem cb_trans : ∀ (a b c : List UInt8), Lib.compareBytes a b < 0 → Lib.compareBytes b c < 0 → Lib.compareBytes a c < 0
  | [], _, [], h1, h2 => by
    rename_i b
    cases b <;> simp [Lib.compareBytes] at h1 h2
  | [], _, _ :: _, _, _ => by simp [Lib.compareBytes]
  | _ :: _, [], _, h1, _ => by simp [Lib.compareBytes] at h1
  | _ :: _, _ :: _, [], _, h2 => by simp [Lib.compareBytes] at h2
  | a :: x, b :: y, c :: z, h1, h2 => by
    simp only [Lib.compareBytes] at h1 h2 ⊢
    by_cases p1 : a < b
    · by_cases p2 : b < c
      · have := UInt8.lt_trans p1 p2
        simp [this]
      · by_cases p3 : c < b
        · simp [p2, p3] at h2
        · have : b = c := UInt8.le_antisymm (UInt8.not_lt.1 p3) (UInt8.not_lt.1 p2)
          subst this
          simp [p1]
    · by_cases p2 : b < a
      · simp [p1, p2] at h1
      · have : a = b := UInt8.le_antisymm (UInt8.not_lt.1 p2) (UInt8.not_lt.1 p1)
        subst this
        simp only [if_neg p1] at h1
        by_cases p3 : a < c
        · simp [p3]
        · by_cases p4 : c < a
          · simp [p3, p4] at h2
          · simp only [if_neg p3, if_neg p4] at h2 ⊢
            exact cb_trans x y z h1 h2
theorem cmpI_anti (a b : Int) : cmpI b a = - cmpI a b := by unfold cmpI; split <;> split <;> (try split) <;> omega
theorem ordT_kne {a b : At} {ks ls : List T} (h : a.k ≠ b.k) : ordT (.node a ks) (.node b ls) = if a.k < b.k then -1 else 1 := by
  have h' : a.k ≠ (T.node b ls).atom.k := h
  rw [ordT, if_pos h']; rfl
theorem ordT_num {a b : At} {ks ls : List T} (h : a.k = b.k) (h2 : a.k = 2 ∨ a.k = 3) : ordT (.node a ks) (.node b ls) = cmpI a.n b.n := by
  have h' : ¬ a.k ≠ (T.node b ls).atom.k := fun e => e h
  rw [ordT, if_neg h', if_pos h2]; rfl
theorem ordT_txt {a b : At} {ks ls : List T} (h : a.k = b.k) (h4 : a.k = 4) : ordT (.node a ks) (.node b ls) = Lib.compareBytes a.t.data.toList b.t.data.toList := by
  have h' : ¬ a.k ≠ (T.node b ls).atom.k := fun e => e h
  have h2 : ¬ (a.k = 2 ∨ a.k = 3) := by omega
  rw [ordT, if_neg h', if_neg h2, if_pos h4]; rfl
theorem ordT_kids {a b : At} {ks ls : List T} (h : a.k = b.k) (h2 : ¬ (a.k = 2 ∨ a.k = 3)) (h4 : a.k ≠ 4) : ordT (.node a ks) (.node b ls) = ordTs ks ls := by
  have h' : ¬ a.k ≠ (T.node b ls).atom.k := fun e => e h
  rw [ordT, if_neg h', if_neg h2, if_neg h4]; rfl
mutual
theorem ordT_anti : ∀ (t u : T), ordT u t = - ordT t u
  | .node a ks, .node b ls => by
    by_cases hk : a.k = b.k
    · by_cases h2 : a.k = 2 ∨ a.k = 3
      · rw [ordT_num hk h2, ordT_num hk.symm (by omega)]; exact cmpI_anti _ _
      · by_cases h4 : a.k = 4
        · rw [ordT_txt hk h4, ordT_txt hk.symm (by omega)]; exact cb_anti _ _
        · rw [ordT_kids hk h2 h4, ordT_kids hk.symm (by omega) (by omega)]; exact ordTs_anti ks ls
    · rw [ordT_kne hk, ordT_kne (fun e => hk e.symm)]
      split <;> split <;> omega
theorem ordTs_anti : ∀ (ks ls : List T), ordTs ls ks = - ordTs ks ls
  | [], [] => rfl
  | [], _ :: _ => rfl
  | _ :: _, [] => rfl
  | x :: xs, y :: ys => by
    simp only [ordTs]
    rw [ordT_anti x y, ordTs_anti xs ys]
    by_cases h : ordT x y = 0
    · simp [h]
    · rw [if_pos (by omega), if_pos h]
end
mutual
theorem ordT_zero : ∀ (t u : T) (m n : Int), t.Wf → u.Wf → okT t m → okT u n → ordT t u = 0 → t = u
  | .node a ks, .node b ls, m, n, ht, hu, h1, h2, h => by
    have hca : a.c = ks.length := by cases ht; assumption
    have hcb : b.c = ls.length := by cases hu; assumption
    have hka : ∀ k ∈ ks, T.Wf k := by cases ht; assumption
    have hkb : ∀ k ∈ ls, T.Wf k := by cases hu; assumption
    rw [okT] at h1 h2
    obtain ⟨_, ⟨p1, p2, p3⟩, k1, o1⟩ := h1
    obtain ⟨_, ⟨q1, q2, q3⟩, k2, o2⟩ := h2
    by_cases hk : a.k = b.k
    · have fin : a.n = b.n → a.t = b.t → ks = ls → T.node a ks = T.node b ls := fun e1 e2 e3 => by
        subst e3
        obtain ⟨ak, an, at_, ac⟩ := a
        obtain ⟨bk, bn, bt, bc⟩ := b
        simp only at hk e1 e2 hca hcb
        subst hk e1 e2
        rw [hca, hcb]
      by_cases hx : a.k = 5 ∨ a.k = 6
      · rw [ordT_kids hk (by omega) (by omega)] at h
        refine fin ?_ ?_ (ordTs_zero ks ls _ _ hka hkb o1 o2 h)
        · rw [p1 (by omega) (by omega), q1 (by omega) (by omega)]
        · rw [p2 (by omega), q2 (by omega)]
      · have e1 : ks = [] := List.eq_nil_of_length_eq_zero (by have := p3 (by omega) (by omega); omega)
        have e2 : ls = [] := List.eq_nil_of_length_eq_zero (by have := q3 (by omega) (by omega); omega)
        refine fin ?_ ?_ (by rw [e1, e2])
        · by_cases h2 : a.k = 2 ∨ a.k = 3
          · rw [ordT_num hk h2] at h
            unfold cmpI at h
            split at h
            · cases h
            · split at h
              · assumption
              · cases h
          · rw [p1 (by omega) (by omega), q1 (by omega) (by omega)]
        · by_cases h4 : a.k = 4
          · rw [ordT_txt hk h4] at h
            exact (ba_list _ _).1 (cb_zero _ _ h)
          · rw [p2 h4, q2 (by omega)]
    · rw [ordT_kne hk] at h
      split at h <;> cases h
theorem ordTs_zero : ∀ (ks ls : List T) (m n : Int), (∀ k ∈ ks, T.Wf k) → (∀ k ∈ ls, T.Wf k) → okTs ks m → okTs ls n → ordTs ks ls = 0 → ks = ls
  | [], [], _, _, _, _, _, _, _ => rfl
  | [], _ :: _, _, _, _, _, _, _, h => by simp [ordTs] at h
  | _ :: _, [], _, _, _, _, _, _, h => by simp [ordTs] at h
  | x :: xs, y :: ys, m, n, hx, hy, h1, h2, h => by
    rw [okTs] at h1 h2
    simp only [ordTs] at h
    by_cases h0 : ordT x y = 0
    · rw [if_neg (by omega)] at h
      rw [ordT_zero x y m n (hx x (by simp)) (hy y (by simp)) h1.1 h2.1 h0, ordTs_zero xs ys m n (fun k hk => hx k (by simp [hk])) (fun k hk => hy k (by simp [hk])) h1.2 h2.2 h]
    · rw [if_pos h0] at h; exact absurd h h0
end
theorem ordT_self (t : T) : ordT t t = 0 := by have := ordT_anti t t; omega
mutual
theorem ordT_trans : ∀ (x y z : T) (m n k : Int), x.Wf → y.Wf → z.Wf → okT x m → okT y n → okT z k → ordT x y < 0 → ordT y z < 0 → ordT x z < 0
  | .node a ks, .node b ls, .node c ms, m, n, k, hx, hy, hz, o1, o2, o3, h1, h2 => by
    have hka : ∀ k ∈ ks, T.Wf k := by cases hx; assumption
    have hkb : ∀ k ∈ ls, T.Wf k := by cases hy; assumption
    have hkc : ∀ k ∈ ms, T.Wf k := by cases hz; assumption
    rw [okT] at o1 o2 o3
    by_cases hab : a.k = b.k
    · by_cases hbc : b.k = c.k
      · by_cases h2' : a.k = 2 ∨ a.k = 3
        · rw [ordT_num hab h2'] at h1
          rw [ordT_num hbc (by omega)] at h2
          rw [ordT_num (by omega) h2']
          have e1 : a.n < b.n := by unfold cmpI at h1; split at h1; assumption; split at h1 <;> omega
          have e2 : b.n < c.n := by unfold cmpI at h2; split at h2; assumption; split at h2 <;> omega
          have e3 : a.n < c.n := by omega
          rw [cmpI, if_pos e3]; omega
        · by_cases h4 : a.k = 4
          · rw [ordT_txt hab h4] at h1
            rw [ordT_txt hbc (by omega)] at h2
            rw [ordT_txt (by omega) h4]
            exact cb_trans _ _ _ h1 h2
          · rw [ordT_kids hab h2' h4] at h1
            rw [ordT_kids hbc (by omega) (by omega)] at h2
            rw [ordT_kids (by omega) h2' h4]
            exact ordTs_trans ks ls ms _ _ _ hka hkb hkc o1.2.2.2 o2.2.2.2 o3.2.2.2 h1 h2
      · rw [ordT_kne hbc] at h2
        have : b.k < c.k := by split at h2 <;> omega
        have hac : a.k < c.k := by omega
        rw [ordT_kne (by omega), if_pos hac]; omega
    · rw [ordT_kne hab] at h1
      have hlt : a.k < b.k := by split at h1 <;> omega
      by_cases hbc : b.k = c.k
      · have hac : a.k < c.k := by omega
        rw [ordT_kne (by omega), if_pos hac]; omega
      · rw [ordT_kne hbc] at h2
        have : b.k < c.k := by split at h2 <;> omega
        have hac : a.k < c.k := by omega
        rw [ordT_kne (by omega), if_pos hac]; omega
theorem ordTs_trans : ∀ (x y z : List T) (m n k : Int), (∀ t ∈ x, T.Wf t) → (∀ t ∈ y, T.Wf t) → (∀ t ∈ z, T.Wf t) → okTs x m → okTs y n → okTs z k → ordTs x y < 0 → ordTs y z < 0 → ordTs x z < 0
  | [], [], _, _, _, _, _, _, _, _, _, _, h1, _ => by simp [ordTs] at h1
  | [], _ :: _, [], _, _, _, _, _, _, _, _, _, _, h2 => by simp [ordTs] at h2
  | [], _ :: _, _ :: _, _, _, _, _, _, _, _, _, _, _, _ => by simp [ordTs]
  | _ :: _, [], _, _, _, _, _, _, _, _, _, _, h1, _ => by simp [ordTs] at h1
  | _ :: _, _ :: _, [], _, _, _, _, _, _, _, _, _, _, h2 => by simp [ordTs] at h2
  | x :: xs, y :: ys, z :: zs, m, n, k, hx, hy, hz, o1, o2, o3, h1, h2 => by
    rw [okTs] at o1 o2 o3
    simp only [ordTs] at h1 h2 ⊢
    have wx := hx x (by simp)
    have wy := hy y (by simp)
    have wz := hz z (by simp)
    by_cases p1 : ordT x y = 0
    · have e := ordT_zero x y m n wx wy o1.1 o2.1 p1
      subst e
      rw [if_neg (by omega)] at h1
      by_cases p2 : ordT x z = 0
      · rw [if_neg (by omega)] at h2 ⊢
        exact ordTs_trans xs ys zs m n k (fun t ht => hx t (by simp [ht])) (fun t ht => hy t (by simp [ht])) (fun t ht => hz t (by simp [ht])) o1.2 o2.2 o3.2 h1 h2
      · rw [if_pos p2] at h2 ⊢; exact h2
    · rw [if_pos p1] at h1
      by_cases p2 : ordT y z = 0
      · have e := ordT_zero y z n k wy wz o2.1 o3.1 p2
        subst e
        rw [if_pos p1]; exact h1
      · rw [if_pos p2] at h2
        have := ordT_trans x y z m n k wx wy wz o1.1 o2.1 o3.1 h1 h2
        rw [if_pos (by omega)]; exact this
end
theorem ordT_le (x y z : T) (m n k : Int) (hx : x.Wf) (hy : y.Wf) (hz : z.Wf) (o1 : okT x m) (o2 : okT y n) (o3 : okT z k) (h1 : ordT x y ≤ 0) (h2 : ordT y z ≤ 0) : ordT x z ≤ 0 := by
  by_cases p1 : ordT x y = 0
  · have e := ordT_zero x y m n hx hy o1 o2 p1
    subst e; exact h2
  · by_cases p2 : ordT y z = 0
    · have e := ordT_zero y z n k hy hz o2 o3 p2
      subst e; exact h1
    · have := ordT_trans x y z m n k hx hy hz o1 o2 o3 (by omega) (by omega)
      omega
theorem enc_inj {t u : T} (ht : t.Wf) (hu : u.Wf) (h : t.enc = u.enc) : t = u := by
  have h1 := runT_enc t [] ht
  have h2 := runT_enc u [] hu
  rw [h, h2] at h1
  simpa using h1.symm
theorem treeP_ok {es : List At} {t : T} (h : treeP es = some t) : okT t 0 := by
  obtain ⟨he, hw, hl, it, hit, hun⟩ := treeP_some h
  have := (unpack_valid es).1 (by rw [hun]; simp)
  rw [he, okP_enc t hw] at this
  exact this.2
end Go.Proofs.YtmiihhbgfijcmaaGreat.K

