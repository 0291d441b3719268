/- Op's plain law, second part: records as lists of names and trees; what is set in them; the same by a map. -/
import Derived.Test.YtmiihhbgfijcmaaGreatPq
namespace Go.Proofs.YtmiihhbgfijcmaaGreat.K
open Go Go.RowKit
set_option linter.unusedVariables false
set_option linter.unusedSimpArgs false
/-! ### The order of names -/
def ltN (a b : ByteArray) : Prop := Op.bytesLess a.toList b.toList = true
instance (a b : ByteArray) : Decidable (ltN a b) := by unfold ltN; exact inferInstance
theorem ltN_iff (a b : ByteArray) : ltN a b ↔ a.data.toList < b.data.toList := by
  rw [ltN, bytesLess_eq, toList_data, toList_data]; simp
theorem ltN_irrefl (a : ByteArray) : ¬ ltN a a := by rw [ltN_iff]; exact List.lt_irrefl _
theorem ltN_trans {a b c : ByteArray} (h : ltN a b) (h' : ltN b c) : ltN a c := by rw [ltN_iff] at *; exact List.lt_trans h h'
theorem ltN_total {a b : ByteArray} (h : a ≠ b) : ltN a b ∨ ltN b a := by
  rw [ltN_iff, ltN_iff]
  by_cases h1 : a.data.toList < b.data.toList
  · exact .inl h1
  · by_cases h2 : b.data.toList < a.data.toList
    · exact .inr h2
    · exfalso
      exact h ((ba_list a b).1 (List.le_antisymm (List.not_lt.1 h2) (List.not_lt.1 h1)))
theorem ltN_ne {a b : ByteArray} (h : ltN a b) : a ≠ b := fun e => ltN_irrefl b (e ▸ h)
/-! ### Lists of names and what they name -/
section
variable {α : Type}
abbrev AL (α : Type) := List (ByteArray × α)
def Sorted (A : AL α) : Prop := A.Pairwise fun p q => ltN p.1 q.1
def setA (n : ByteArray) (v : α) : AL α → Bool → AL α
  | [], done => if done = true then [] else [(n, v)]
  | (m, x) :: r, done => (if done = false ∧ ¬ ltN m n then [(n, v)] else []) ++ (if m ≠ n then [(m, x)] else []) ++ setA n v r (done || decide (¬ ltN m n))
theorem setA_done (n : ByteArray) (v : α) : ∀ (A : AL α), setA n v A true = A.filter fun p => decide (p.1 ≠ n)
  | [] => rfl
  | (m, x) :: r => by
    simp only [setA, Bool.true_or, setA_done n v r, Bool.true_eq_false, false_and, if_false, List.nil_append]
    by_cases h : m = n <;> simp [h]
theorem setA_mem (n : ByteArray) (v : α) : ∀ (A : AL α), Sorted A → ∀ m x, (m, x) ∈ setA n v A false ↔ (m = n ∧ x = v) ∨ (m ≠ n ∧ (m, x) ∈ A)
  | [], _, m, x => by simp [setA]
  | (k, y) :: r, h, m, x => by
    obtain ⟨h1, h2⟩ := List.pairwise_cons.1 h
    by_cases hk : ltN k n
    · have hkn := ltN_ne hk
      simp only [setA, hk, not_true_eq_false, and_false, if_false, List.nil_append, ne_eq, hkn, not_false_eq_true, if_true, List.singleton_append, List.mem_cons, Prod.mk.injEq, decide_false, Bool.or_self, setA_mem n v r h2 m x]
      constructor
      · rintro (⟨rfl, rfl⟩ | e | ⟨e1, e2⟩)
        · exact .inr ⟨hkn, .inl ⟨rfl, rfl⟩⟩
        · exact .inl e
        · exact .inr ⟨e1, .inr e2⟩
      · rintro (e | ⟨e1, e2 | e2⟩)
        · exact .inr (.inl e)
        · exact .inl e2
        · exact .inr (.inr ⟨e1, e2⟩)
    · simp only [setA, hk, not_false_eq_true, and_self, if_true, decide_true, Bool.or_true, setA_done, List.mem_append, List.mem_filter, List.mem_singleton, Prod.mk.injEq, decide_eq_true_eq]
      by_cases hkn : k = n
      · subst hkn
        simp only [ne_eq, not_true_eq_false, if_false, List.not_mem_nil, or_false, List.mem_cons, Prod.mk.injEq]
        constructor
        · rintro (e | ⟨e1, e2⟩)
          · exact .inl e
          · exact .inr ⟨e2, .inr e1⟩
        · rintro (e | ⟨e1, e2 | e2⟩)
          · exact .inl e
          · exact absurd e2.1 e1
          · exact .inr ⟨e2, e1⟩
      · simp only [ne_eq, hkn, not_false_eq_true, if_true, List.mem_singleton, Prod.mk.injEq, List.mem_cons, List.not_mem_nil, or_false]
        constructor
        · rintro ((e | ⟨rfl, rfl⟩) | ⟨e1, e2⟩)
          · exact .inl e
          · exact .inr ⟨hkn, .inl ⟨rfl, rfl⟩⟩
          · exact .inr ⟨e2, .inr e1⟩
        · rintro (e | ⟨e1, e2 | e2⟩)
          · exact .inl (.inl e)
          · exact .inl (.inr e2)
          · exact .inr ⟨e2, e1⟩
theorem setA_sorted (n : ByteArray) (v : α) : ∀ (A : AL α), Sorted A → Sorted (setA n v A false)
  | [], _ => by simp [setA, Sorted]
  | (k, y) :: r, h => by
    obtain ⟨h1, h2⟩ := List.pairwise_cons.1 h
    by_cases hk : ltN k n
    · have hkn := ltN_ne hk
      have e : setA n v ((k, y) :: r) false = (k, y) :: setA n v r false := by simp [setA, hk, hkn]
      rw [e]
      refine List.pairwise_cons.2 ⟨fun q hq => ?_, setA_sorted n v r h2⟩
      obtain ⟨m, x⟩ := q
      rcases (setA_mem n v r h2 m x).1 hq with ⟨rfl, _⟩ | ⟨_, e2⟩
      · exact hk
      · exact h1 _ e2
    · have hf : Sorted (r.filter fun p => decide (p.1 ≠ n)) := h2.filter _
      by_cases hkn : k = n
      · subst hkn
        have e : setA k v ((k, y) :: r) false = (k, v) :: r.filter fun p => decide (p.1 ≠ k) := by simp [setA, hk, setA_done]
        rw [e]
        exact List.pairwise_cons.2 ⟨fun q hq => h1 q (List.mem_filter.1 hq).1, hf⟩
      · have hnk : ltN n k := (ltN_total hkn).resolve_left hk
        have e : setA n v ((k, y) :: r) false = (n, v) :: (k, y) :: r.filter fun p => decide (p.1 ≠ n) := by simp [setA, hk, hkn, setA_done]
        rw [e]
        refine List.pairwise_cons.2 ⟨fun q hq => ?_, List.pairwise_cons.2 ⟨fun q hq => h1 q (List.mem_filter.1 hq).1, hf⟩⟩
        rcases List.mem_cons.1 hq with rfl | hq
        · exact hnk
        · exact ltN_trans hnk (h1 q (List.mem_filter.1 hq).1)
def setAll (A B : AL α) : AL α := B.foldl (fun A p => setA p.1 p.2 A false) A
theorem setAll_snoc (A B : AL α) (p : ByteArray × α) : setAll A (B ++ [p]) = setA p.1 p.2 (setAll A B) false := by simp [setAll]
theorem setAll_sorted : ∀ (B A : AL α), Sorted A → Sorted (setAll A B)
  | [], A, h => h
  | p :: B, A, h => setAll_sorted B _ (setA_sorted p.1 p.2 A h)
theorem sorted_keys {A : AL α} (h : Sorted A) : (keysM A).Nodup := List.pairwise_map.2 (h.imp fun h => ltN_ne h)
def updAll (M B : AL α) : AL α := B.foldl (fun M p => updM M p.1 p.2) M
theorem updAll_snoc (M B : AL α) (p : ByteArray × α) : updAll M (B ++ [p]) = updM (updAll M B) p.1 p.2 := by simp [updAll]
theorem updAll_nodup : ∀ (B M : AL α), (keysM M).Nodup → (keysM (updAll M B)).Nodup
  | [], M, h => h
  | p :: B, M, h => updAll_nodup B _ (updM_nodup M p.1 p.2 h)
theorem updAll_len : ∀ (B M : AL α), (updAll M B).length ≤ M.length + B.length
  | [], M => by simp [updAll]
  | p :: B, M => by
    have h1 := updAll_len B (updM M p.1 p.2)
    have h2 := updM_len M p.1 p.2
    simp only [updAll, List.foldl_cons, List.length_cons] at h1 ⊢
    omega
theorem updAll_mem_keys : ∀ (B M : AL α) (p : ByteArray × α), p ∈ updAll M B → p ∈ M ∨ p ∈ B
  | [], M, p, h => .inl h
  | q :: B, M, p, h => by
    rcases updAll_mem_keys B _ p h with h | h
    · have : ∀ (M : AL α), p ∈ updM M q.1 q.2 → p ∈ M ∨ p = q := by
        intro M
        induction M with
        | nil => intro h; simp [updM] at h; exact .inr h
        | cons a M ih =>
          intro h
          obtain ⟨m, x⟩ := a
          rw [updM] at h
          split at h
          · rcases List.mem_cons.1 h with h | h
            · exact .inr h
            · exact .inl (by simp [h])
          · rcases List.mem_cons.1 h with h | h
            · exact .inl (by simp [h])
            · rcases ih h with h | h
              · exact .inl (by simp [h])
              · exact .inr h
      rcases this M h with h | h
      · exact .inl h
      · exact .inr (by simp [h])
    · exact .inr (by simp [h])
/-- Setting one by one in a sorted list, and in a map. -/
theorem same_mem : ∀ (B A M : AL α), Sorted A → (keysM M).Nodup → (∀ n x, (n, x) ∈ A ↔ (n, x) ∈ M) → ∀ n x, (n, x) ∈ setAll A B ↔ (n, x) ∈ updAll M B
  | [], A, M, _, _, h => h
  | p :: B, A, M, hA, hM, h => same_mem B _ _ (setA_sorted p.1 p.2 A hA) (updM_nodup M p.1 p.2 hM) fun n x => by
    rw [setA_mem p.1 p.2 A hA, updM_mem M p.1 p.2 hM, h]
theorem updAll_self : ∀ (A : AL α), (keysM A).Nodup → updAll [] A = A := by
  have key : ∀ (A P : AL α), (keysM (P ++ A)).Nodup → updAll P A = P ++ A := by
    intro A
    induction A with
    | nil => intro P _; simp [updAll]
    | cons p A ih =>
      intro P h
      have hn : ∀ q ∈ P, q.1 ≠ p.1 := fun q hq e => by
        simp only [keysM, List.map_append, List.map_cons] at h
        obtain ⟨_, _, h3⟩ := List.nodup_append.1 h
        exact h3 q.1 (List.mem_map.2 ⟨q, hq, rfl⟩) p.1 (by simp) e
      have e : updAll P (p :: A) = updAll (updM P p.1 p.2) A := rfl
      rw [e, updM_none P p.1 p.2 hn, ih _ (by simpa using h)]
      simp
  intro A h
  simpa using key A [] (by simpa using h)
theorem mem_at {A : AL α} {p : ByteArray × α} (h : p ∈ A) : ∃ j : Nat, A[j]? = some p := List.mem_iff_getElem?.1 h
/-- The names of a map in their order, and what they name, are the sorted list. -/
theorem sortB_sorted {C M : AL α} (z : α) (hC : Sorted C) (hM : (keysM M).Nodup) (h : ∀ n x, (n, x) ∈ C ↔ (n, x) ∈ M) : sortB (keysM M) = keysM C ∧ (sortB (keysM M)).map (fun k => lookM M k z) = C.map (·.2) := by
  have hp : (keysM C).Perm (keysM M) := (List.perm_ext_iff_of_nodup (sorted_keys hC) hM).2 fun n => by
    simp only [keysM, List.mem_map]
    constructor
    · rintro ⟨⟨m, x⟩, hm, rfl⟩; exact ⟨(m, x), (h m x).1 hm, rfl⟩
    · rintro ⟨⟨m, x⟩, hm, rfl⟩; exact ⟨(m, x), (h m x).2 hm, rfl⟩
  have h1 : sortB (keysM M) = keysM C := by
    rw [← sortB_of_perm hp]
    have hs : ((keysM C).map fun s => s.data.toList).Pairwise (fun x y => decide (x ≤ y) = true) := by
      refine List.pairwise_map.2 (List.pairwise_map.2 (hC.imp fun {p q} hpq => ?_))
      rw [ltN_iff] at hpq
      simp only [decide_eq_true_eq]
      exact List.le_of_lt hpq
    rw [sortB, List.mergeSort_of_pairwise hs, List.map_map]
    conv => rhs; rw [← List.map_id (keysM C)]
    apply List.map_congr_left
    intro a _
    simp
  refine ⟨h1, ?_⟩
  rw [h1, keysM, List.map_map]
  apply List.map_congr_left
  rintro ⟨m, x⟩ hm
  obtain ⟨j, hj⟩ := mem_at ((h m x).1 hm)
  exact lookM_at M m z x j hM hj
end
/-! ### A record's kids -/
def flatA (A : AL T) : List T := A.flatMap fun p => [tNode p.1, p.2]
theorem flatA_len (A : AL T) : (flatA A).length = 2 * A.length := by
  induction A with
  | nil => rfl
  | cons p A ih => simp only [flatA, List.flatMap_cons, List.length_append, List.length_cons, List.length_nil] at ih ⊢; omega
theorem flatA_get {A : AL T} {i : Nat} {p : ByteArray × T} (h : A[i]? = some p) : (flatA A)[2 * i]? = some (tNode p.1) ∧ (flatA A)[2 * i + 1]? = some p.2 := by
  induction A generalizing i with
  | nil => simp at h
  | cons q A ih =>
    cases i with
    | zero => simp at h; subst h; simp [flatA]
    | succ i =>
      have := ih (i := i) (by simpa using h)
      rw [show 2 * (i + 1) = 2 * i + 1 + 1 by omega]
      simpa [flatA] using this
theorem recOk_flat {A : AL T} (h : Sorted A) : RecOk (flatA A) := by
  intro i x hx
  have hi : i < A.length := by
    have := (List.getElem?_eq_some_iff.1 hx).1
    rw [flatA_len] at this; omega
  have hp : A[i]? = some A[i] := List.getElem?_eq_getElem hi
  rw [(flatA_get hp).1] at hx
  cases hx
  refine ⟨rfl, fun y h0 hy => ?_⟩
  have hq : A[i - 1]? = some A[i - 1] := List.getElem?_eq_getElem (by omega)
  rw [(flatA_get hq).1] at hy
  cases hy
  exact List.pairwise_iff_getElem.1 h (i - 1) i (by omega) hi (by omega)
theorem tNode_eval {s : ByteArray} (h : s.size ≤ 1000) : evalT (tNode s) = some ⟨.text s, 0, true⟩ := by
  have h' : ¬ (s.size > 1000) := by omega
  simp [evalT, tNode, evalTs, nodeI, valOf, want, depthOf, h']
/-- A valid record's kids. -/
theorem rec_assoc : ∀ (q : Nat) (ks : List T) (k : List It) (ns : List ByteArray) (vs : List V), ks.length = 2 * q → (∀ t ∈ ks, T.Wf t) → evalTs ks = some k → ns.length = q → vs.length = q → turnV ns vs = k.map It.v → (∀ (i : Nat) x, ks[2 * i]? = some x → x.atom.k = 4) →
    ∃ A : AL T, ks = flatA A ∧ keysM A = ns ∧ (∀ p ∈ A, p.1.size ≤ 1000) ∧ A.length = q ∧ ∀ (i : Nat) p, A[i]? = some p → ∃ it, evalT p.2 = some it ∧ vs[i]? = some it.v
  | 0, ks, k, ns, vs, hl, _, _, hn, _, _, _ => by
    obtain rfl := List.eq_nil_of_length_eq_zero (show ks.length = 0 by omega)
    obtain rfl := List.eq_nil_of_length_eq_zero hn
    exact ⟨[], rfl, rfl, by simp, rfl, fun i p h => by simp at h⟩
  | q + 1, ks, k, ns, vs, hl, hw, he, hn, hv, ht, h4 => by
    match ks, hl with
    | x :: y :: r, hl =>
      simp only [evalTs, Option.bind_eq_some_iff, Option.some.injEq] at he
      obtain ⟨a, ha, _, ⟨b, hb, s, hs, rfl⟩, rfl⟩ := he
      match ns, hn, vs, hv with
      | n :: ns, hn, v :: vs, hv =>
        simp only [turnV, List.map_cons, List.cons.injEq] at ht
        obtain ⟨t1, t2, t3⟩ := ht
        have hk4 := h4 0 x rfl
        obtain ⟨A, e1, e2, e3, e4, e5⟩ := rec_assoc q r s ns vs (by simp at hl; omega) (fun t ht => hw t (by simp [ht])) hs (by simpa using hn) (by simpa using hv) t3 (fun i z hz => h4 (i + 1) z (by rw [show 2 * (i + 1) = 2 * i + 1 + 1 by omega]; simpa using hz))
        have hx : x = tNode n ∧ n.size ≤ 1000 := by
          cases x with
          | node c xs =>
            obtain ⟨k', hk', hi⟩ := evalT_inner (hw _ (by simp)) ha
            obtain ⟨_, _, _, hp, _, _⟩ := evalT_node ha
            obtain ⟨hc, _⟩ := wf_c (hw (.node c xs) (by simp))
            have hk4' : c.k = 4 := hk4
            rw [← t1] at hi
            cases hi with
            | text g1 g2 g3 =>
              subst g2
              refine ⟨?_, g3⟩
              rw [tNode]
              congr 1
              exact at_ext hk4' (hp.1 (by omega) (by omega)) rfl (by simpa using hc)
        refine ⟨(n, y) :: A, ?_, ?_, ?_, by simp [e4], ?_⟩
        · rw [hx.1, e1]; simp [flatA]
        · simp only [keysM, List.map_cons] at e2 ⊢; rw [e2]
        · simp only [List.mem_cons, forall_eq_or_imp]; exact ⟨hx.2, e3⟩
        · intro i p hp
          cases i with
          | zero => simp at hp; subst hp; exact ⟨b, hb, by simpa using t2⟩
          | succ i => simpa using e5 i p (by simpa using hp)
end Go.Proofs.YtmiihhbgfijcmaaGreat.K

