/- The plain law on values: what unpack takes is what the reference calls valid; and the tree that it gives. -/
import Derived.Test.YtmiihhbgfijcmaaGreatOk
namespace Go.Proofs.YtmiihhbgfijcmaaGreat.K
open Go Go.RowKit
set_option linter.unusedVariables false

theorem le_not_less : ∀ (a b : List UInt8), (Op.bytesLess a b || a == b) = !(Op.bytesLess b a)
  | [], [] => by simp [Op.bytesLess]
  | [], b :: y => by simp [Op.bytesLess]
  | a :: x, [] => by simp [Op.bytesLess]
  | a :: x, b :: y => by
    have ih := le_not_less x y
    simp only [Op.bytesLess]
    by_cases h1 : a < b
    · have h2 : ¬ b < a := UInt8.not_lt.2 (UInt8.le_of_lt h1)
      have h3 : (b == a) = false := by rw [beq_eq_false_iff_ne]; rintro rfl; exact UInt8.lt_irrefl _ h1
      simp [h1, h2, h3]
    · by_cases h2 : b < a
      · have h3 : (a == b) = false := by rw [beq_eq_false_iff_ne]; rintro rfl; exact UInt8.lt_irrefl _ h2
        have h4 : a ≠ b := by simpa using h3
        simp [h1, h2, h3]
      · have h3 : a = b := UInt8.le_antisymm (UInt8.not_lt.1 h2) (UInt8.not_lt.1 h1)
        subst h3
        simp only [h1, decide_false, Bool.false_or, beq_self_eq_true, Bool.true_and]
        rw [← ih]
        simp
theorem leT_less (a b : ByteArray) : leT a b = !(Op.bytesLess b.toList a.toList) := le_not_less _ _

def nodeI (a : At) (k : List It) : Option It := (valOf a k).bind fun x => if want a ≠ a ∨ depthOf 0 k > 12 then none else some ⟨x, depthOf 0 k, decide (a.k = 4)⟩
mutual
def evalT : T → Option It
  | .node a ks => (evalTs ks).bind fun k => nodeI a k
def evalTs : List T → Option (List It)
  | [] => some []
  | t :: ts => (evalT t).bind fun x => (evalTs ts).bind fun r => some (x :: r)
end
theorem evalTs_app : ∀ (a b : List T), evalTs (a ++ b) = (evalTs a).bind fun x => (evalTs b).bind fun y => some (x ++ y)
  | [], b => by simp [evalTs]
  | t :: a, b => by
    rw [List.cons_append, evalTs, evalTs, evalTs_app a b]
    cases evalT t <;> cases evalTs a <;> cases evalTs b <;> simp
theorem evalTs_one (t : T) : evalTs [t] = (evalT t).bind fun x => some [x] := by simp [evalTs]
theorem evalTs_len : ∀ {st : List T} {k : List It}, evalTs st = some k → k.length = st.length
  | [], k, h => by simp [evalTs] at h; simp [h]
  | t :: ts, k, h => by
    simp only [evalTs, Option.bind_eq_some_iff, Option.some.injEq] at h
    obtain ⟨x, _, r, hr, rfl⟩ := h
    simp [evalTs_len hr]
theorem evalTs_get : ∀ {st : List T} {k : List It}, evalTs st = some k → ∀ (i : Nat) t, st[i]? = some t → ∃ x, k[i]? = some x ∧ evalT t = some x
  | [], k, h, i, t, ht => by simp at ht
  | t :: ts, k, h, i, t', ht => by
    simp only [evalTs, Option.bind_eq_some_iff, Option.some.injEq] at h
    obtain ⟨x, hx, r, hr, rfl⟩ := h
    cases i with
    | zero => simp at ht; subst ht; exact ⟨x, rfl, hx⟩
    | succ i => simpa using evalTs_get hr i t' (by simpa using ht)
theorem evalTs_split {st : List T} {k : List It} (h : evalTs st = some k) (n : Nat) : evalTs (st.take n) = some (k.take n) ∧ evalTs (st.drop n) = some (k.drop n) := by
  have hl := evalTs_len h
  rw [← List.take_append_drop n st, evalTs_app] at h
  cases h1 : evalTs (st.take n) with
  | none => rw [h1] at h; cases h
  | some x =>
    cases h2 : evalTs (st.drop n) with
    | none => rw [h1, h2] at h; cases h
    | some y =>
      rw [h1, h2] at h
      simp only [Option.bind_some, Option.some.injEq] at h
      subst h
      have := evalTs_len h1
      by_cases hn : n ≤ st.length
      · have hx : x.length = n := by rw [this]; simp; omega
        rw [List.take_left' hx, List.drop_left' hx]
        exact ⟨rfl, rfl⟩
      · have hy := evalTs_len h2
        rw [List.drop_eq_nil_of_le (by omega)] at hy
        have : y = [] := List.eq_nil_of_length_eq_zero hy
        subst this
        rw [List.append_nil] at hl ⊢
        rw [List.take_of_length_le (by omega), List.drop_eq_nil_of_le (by omega)]
        exact ⟨rfl, rfl⟩
theorem stepU_node {its : List It} {a : At} : stepU its a = if a.c < 0 ∨ a.c > its.length then none else (nodeI a (its.drop (its.length - a.c.toNat))).bind fun x => some (its.take (its.length - a.c.toNat) ++ [x]) := by
  unfold stepU nodeI
  split
  · rfl
  · cases valOf a (its.drop (its.length - a.c.toNat)) with
    | none => rfl
    | some x => simp only [Option.bind_some]; split <;> rfl
theorem runT_dead : ∀ (es : List At) {st : List T}, evalTs st = none → (runT st es).bind evalTs = none
  | [], st, h => by simpa [runT] using h
  | a :: es, st, h => by
    rw [show a :: es = [a] ++ es from rfl, runT_app, runT_one]
    cases hs : stepT st a with
    | none => rfl
    | some s =>
      simp only [Option.bind_some]
      refine runT_dead es ?_
      unfold stepT at hs
      split at hs
      · cases hs
      · cases hs
        rw [← List.take_append_drop (st.length - a.c.toNat) st, evalTs_app] at h
        rw [evalTs_app, evalTs_one, evalT]
        cases h1 : evalTs (st.take (st.length - a.c.toNat)) with
        | none => rfl
        | some x =>
          cases h2 : evalTs (st.drop (st.length - a.c.toNat)) with
          | none => rfl
          | some y => rw [h1, h2] at h; cases h
theorem runU_runT : ∀ (es : List At) {st : List T} {its : List It}, evalTs st = some its → runU its es = (runT st es).bind evalTs
  | [], st, its, h => by simp [runU, runT, h]
  | a :: es, st, its, h => by
    have hl := evalTs_len h
    rw [show a :: es = [a] ++ es from rfl, runT_app, runT_one]
    have hu : runU its ([a] ++ es) = (stepU its a).bind fun s => runU s es := by simp only [runU, List.foldlM_append]; simp
    rw [hu, stepU_node, hl]
    unfold stepT
    split
    · rfl
    · obtain ⟨h1, h2⟩ := evalTs_split h (st.length - a.c.toNat)
      simp only [Option.bind_some]
      cases hn : nodeI a (its.drop (st.length - a.c.toNat)) with
      | none =>
        simp only [Option.bind_none]
        refine (runT_dead es ?_).symm
        rw [evalTs_app, h1, evalTs_one, evalT, h2]
        simp [hn]
      | some x =>
        simp only [Option.bind_some]
        refine runU_runT es ?_
        rw [evalTs_app, h1, evalTs_one, evalT, h2]
        simp [hn]
theorem unpackP_enc (t : T) (h : t.Wf) : unpackP t.enc = if t.enc.length ≤ 1000 then (evalT t).map It.v else none := by
  have hp := enc_pos t
  unfold unpackP
  rw [runU_runT t.enc (st := []) (its := []) rfl, runT_enc t [] h]
  simp only [List.nil_append, Option.bind_some, evalTs_one]
  by_cases hl : t.enc.length ≤ 1000
  · rw [if_neg (by omega), if_pos hl]
    cases evalT t <;> rfl
  · rw [if_pos (by omega), if_neg hl]
theorem unpackP_none {es : List At} (h : kidsP es = none) : unpackP es = none := by
  unfold unpackP
  split
  · rfl
  · rw [runU_runT es (st := []) (its := []) rfl]
    cases hr : runT [] es with
    | none => rfl
    | some st =>
      simp only [Option.bind_some]
      cases he : evalTs st with
      | none => rfl
      | some k =>
        have hl := evalTs_len he
        match k, hl with
        | [], _ => rfl
        | x :: y :: r, _ => rfl
        | [x], hl =>
          exfalso
          obtain ⟨t, rfl⟩ := List.length_eq_one_iff.1 hl.symm
          have e := runT_encs _ hr
          rw [encs_one, T.encs, List.nil_append] at e
          rw [← e, kidsP_enc t (runT_wf _ hr (by simp) t (by simp))] at h
          cases h

/-! ### One node -/
theorem depth_le (n : Int) : ∀ (k : List It) (d : Int), depthOf d k ≤ n ↔ d ≤ n ∧ ∀ x ∈ k, x.deep + 1 ≤ n
  | [], d => by simp [depthOf]
  | x :: k, d => by
    have := depth_le n k (if x.deep + 1 > d then x.deep + 1 else d)
    simp only [depthOf, List.foldl_cons] at this ⊢
    rw [this]
    simp only [List.mem_cons, forall_eq_or_imp]
    split <;> constructor <;> rintro ⟨h1, h2⟩ <;> first | exact ⟨by omega, by omega, h2⟩ | exact ⟨by omega, h2.2⟩
theorem want_eq (a : At) : want a = a ↔ Plain a := by
  obtain ⟨k, n, t, c⟩ := a
  simp only [want, Plain, At.mk.injEq, true_and]
  constructor
  · rintro ⟨h1, h2, h3⟩
    refine ⟨fun x y => ?_, fun x => ?_, fun x y => ?_⟩
    · rw [if_neg (by omega)] at h1; exact h1.symm
    · rw [if_neg x] at h2; exact h2.symm
    · rw [if_neg (by omega)] at h3; exact h3.symm
  · rintro ⟨h1, h2, h3⟩
    refine ⟨?_, ?_, ?_⟩
    · split
      · rfl
      · exact (h1 (by omega) (by omega)).symm
    · split
      · rfl
      · rename_i hk; exact (h2 hk).symm
    · split
      · rfl
      · exact (h3 (by omega) (by omega)).symm
theorem evalT_text {t : T} {x : It} (h : evalT t = some x) : x.text = decide (t.atom.k = 4) ∧ (t.atom.k = 4 → x.v = .text t.atom.t) := by
  cases t with
  | node a ks =>
    simp only [evalT, nodeI, Option.bind_eq_some_iff] at h
    obtain ⟨k, _, v, hv, h⟩ := h
    split at h
    · cases h
    · cases h
      refine ⟨rfl, fun h4 => ?_⟩
      simp only [T.atom] at h4
      simp only [valOf, h4] at hv
      by_cases ht : a.t.size > 1000
      · simp [ht] at hv
      · simp [ht] at hv; exact hv.symm
def RecOk' (ks : List T) (p : Option ByteArray) : Prop := ∀ (i : Nat) x, ks[2 * i]? = some x → x.atom.k = 4 ∧ (i = 0 → ∀ q, p = some q → Op.bytesLess q.toList x.atom.t.toList = true) ∧ ∀ y, 0 < i → ks[2 * (i - 1)]? = some y → Op.bytesLess y.atom.t.toList x.atom.t.toList = true
theorem recOk_iff (ks : List T) : RecOk ks ↔ RecOk' ks none :=
  ⟨fun h i x hx => ⟨(h i x hx).1, fun _ q hq => (by cases hq), (h i x hx).2⟩, fun h i x hx => ⟨(h i x hx).1, (h i x hx).2.2⟩⟩
theorem recOk_step (x y : T) (r : List T) (p : Option ByteArray) : RecOk' (x :: y :: r) p ↔ x.atom.k = 4 ∧ (∀ q, p = some q → Op.bytesLess q.toList x.atom.t.toList = true) ∧ RecOk' r (some x.atom.t) := by
  constructor
  · intro h
    refine ⟨(h 0 x rfl).1, (h 0 x rfl).2.1 rfl, fun i z hz => ?_⟩
    have h1 := h (i + 1) z (by rw [show 2 * (i + 1) = 2 * i + 1 + 1 by omega]; simpa using hz)
    refine ⟨h1.1, fun hi q hq => ?_, fun w hi hw => ?_⟩
    · subst hi
      cases hq
      exact h1.2.2 x (by omega) rfl
    · exact h1.2.2 w (by omega) (by rw [show 2 * (i + 1 - 1) = 2 * (i - 1) + 1 + 1 by omega]; simpa using hw)
  · rintro ⟨h1, h2, h3⟩ i z hz
    cases i with
    | zero =>
      simp at hz
      subst hz
      exact ⟨h1, fun _ => h2, fun _ hi => by omega⟩
    | succ i =>
      rw [show 2 * (i + 1) = 2 * i + 1 + 1 by omega] at hz
      have h4 := h3 i z (by simpa using hz)
      refine ⟨h4.1, fun hi => by omega, fun w _ hw => ?_⟩
      rw [Nat.add_sub_cancel] at hw
      cases i with
      | zero =>
        simp at hw
        subst hw
        exact h4.2.1 rfl _ rfl
      | succ i =>
        rw [show 2 * (i + 1) = 2 * i + 1 + 1 by omega] at hw
        exact h4.2.2 w (by omega) (by simpa using hw)
theorem recGo_iff : ∀ (q : Nat) (ks : List T) (k : List It) (ns : List ByteArray) (vs : List V), ks.length = 2 * q → evalTs ks = some k → (recGo k ns vs ≠ none ↔ RecOk' ks ns.getLast?)
  | 0, ks, k, ns, vs, hl, he => by
    have : ks = [] := List.eq_nil_of_length_eq_zero (by omega)
    subst this
    simp [evalTs] at he
    subst he
    simp [recGo, RecOk']
  | q + 1, ks, k, ns, vs, hl, he => by
    match ks, hl with
    | x :: y :: r, hl =>
      simp only [evalTs, Option.bind_eq_some_iff, Option.some.injEq] at he
      obtain ⟨a, ha, _, ⟨b, hb, s, hs, rfl⟩, rfl⟩ := he
      obtain ⟨t1, t2⟩ := evalT_text ha
      rw [recOk_step, recGo]
      by_cases h4 : x.atom.k = 4
      · rw [if_neg (by rw [t1]; simp [h4]), t2 h4]
        simp only
        have hq : (ns ≠ [] ∧ leT x.atom.t (ns.getLastD ⟨#[]⟩) = true) ↔ ¬ ∀ q, ns.getLast? = some q → Op.bytesLess q.toList x.atom.t.toList = true := by
          rw [List.getLastD_eq_getLast?]
          cases hn : ns.getLast? with
          | none => simp [List.getLast?_eq_none_iff.1 hn]
          | some p =>
            have : ns ≠ [] := by intro e; rw [e] at hn; cases hn
            simp [this, leT_less]
        by_cases hc : ns ≠ [] ∧ leT x.atom.t (ns.getLastD ⟨#[]⟩) = true
        · rw [if_pos hc]
          constructor
          · intro h; exact absurd rfl h
          · rintro ⟨_, h, _⟩; exact absurd h (hq.1 hc)
        · rw [if_neg hc, recGo_iff q r s _ _ (by simp at hl; omega) hs, List.getLast?_concat]
          constructor
          · intro h; exact ⟨h4, Decidable.not_not.1 (fun hn => hc (hq.2 hn)), h⟩
          · rintro ⟨_, _, h⟩; exact h
      · rw [if_pos (by rw [t1]; simp [h4])]
        constructor
        · intro h; exact absurd rfl h
        · rintro ⟨h, _⟩; exact absurd h h4
theorem valOf_iff {a : At} {ks : List T} {k : List It} (hc : a.c = ks.length) (he : evalTs ks = some k) : valOf a k ≠ none ↔ Kind a ks := by
  unfold valOf Kind
  by_cases h1 : a.k = 1
  · simp [h1]
  by_cases h2 : a.k = 2
  · simp only [h2]
    by_cases hn : a.n = 0 <;> by_cases hn' : a.n = 1 <;> simp [hn, hn']
  by_cases h3 : a.k = 3
  · simp [h3]
  by_cases h4 : a.k = 4
  · simp only [h4]
    by_cases ht : a.t.size > 1000 <;> simp [ht] <;> omega
  by_cases h5 : a.k = 5
  · simp only [h5]
    by_cases ht : a.c > 200 <;> simp [ht] <;> omega
  by_cases h6 : a.k = 6
  · simp only [h6]
    rw [Int.tdiv_eq_ediv_of_nonneg (by omega)]
    by_cases hm : a.c.tmod 2 = 0
    · have hm' : a.c % 2 = 0 := by rwa [Int.tmod_eq_emod_of_nonneg (by omega)] at hm
      obtain ⟨q, hq⟩ : ∃ q, ks.length = 2 * q := ⟨ks.length / 2, by omega⟩
      have hr := recGo_iff q ks k [] [] hq he
      rw [List.getLast?_nil, ← recOk_iff] at hr
      by_cases hd : a.c / 2 > 200
      · have : ¬ a.c ≤ 400 := by omega
        simp [hd, this]
      · have : a.c ≤ 400 := by omega
        simp only [hm, hd, this, ne_eq, not_true_eq_false, or_self, if_false]
        simp only [show (6 : Int) ≠ 1 by decide, show (6 : Int) ≠ 2 by decide, show (6 : Int) ≠ 3 by decide, show (6 : Int) ≠ 4 by decide, show (6 : Int) ≠ 5 by decide, if_false, if_true, false_and, false_or, true_and]
        rw [← hr]
        cases recGo k [] [] <;> simp
    · simp [hm]
  simp [h1, h2, h3, h4, h5, h6]
mutual
theorem okT_iff : ∀ (t : T) (above : Int), t.Wf → 0 ≤ above → (okT t above ↔ ∃ x, evalT t = some x ∧ x.deep + above ≤ 12)
  | .node a ks, above, hw, h0 => by
    have hc : a.c = ks.length := by cases hw; assumption
    have hk : ∀ k ∈ ks, T.Wf k := by cases hw; assumption
    have ih := okTs_ev ks (above + 1) hk (by omega)
    rw [okT, ih, evalT]
    constructor
    · rintro ⟨h1, h2, h3, k, hev, hd⟩
      rw [hev, Option.bind_some, nodeI]
      obtain ⟨x, hx⟩ := Option.ne_none_iff_exists'.1 ((valOf_iff hc hev).2 h3)
      have hdd : depthOf 0 k ≤ 12 - above := (depth_le _ k 0).2 ⟨by omega, fun x hx => by have := hd x hx; omega⟩
      rw [hx, Option.bind_some, if_neg (by rw [not_or]; exact ⟨fun h => h ((want_eq a).2 h2), by omega⟩)]
      exact ⟨_, rfl, by simp only; omega⟩
    · rintro ⟨x, hx, hd⟩
      obtain ⟨k, hev, hx⟩ := Option.bind_eq_some_iff.1 hx
      obtain ⟨v, hv, hx⟩ := Option.bind_eq_some_iff.1 hx
      split at hx
      · cases hx
      · rename_i hn
        cases hx
        rw [not_or] at hn
        have hdd := (depth_le (12 - above) k 0).1 (by simp only at hd; omega)
        exact ⟨by omega, (want_eq a).1 (Decidable.not_not.1 hn.1), (valOf_iff hc hev).1 (by rw [hv]; simp), k, hev, fun x hx => by have := hdd.2 x hx; omega⟩
theorem okTs_ev : ∀ (ks : List T) (above : Int), (∀ k ∈ ks, T.Wf k) → 0 ≤ above → (okTs ks above ↔ ∃ k, evalTs ks = some k ∧ ∀ x ∈ k, x.deep + above ≤ 12)
  | [], above, _, _ => by simp [okTs, evalTs]
  | t :: ts, above, hw, h0 => by
    rw [okTs, okT_iff t above (hw t (by simp)) h0, okTs_ev ts above (fun k hk => hw k (by simp [hk])) h0, evalTs]
    constructor
    · rintro ⟨⟨x, hx, hd⟩, k, hk, hds⟩
      exact ⟨x :: k, by rw [hx, hk]; rfl, by simpa using ⟨hd, hds⟩⟩
    · rintro ⟨k, hk, hd⟩
      simp only [Option.bind_eq_some_iff, Option.some.injEq] at hk
      obtain ⟨x, hx, r, hr, rfl⟩ := hk
      simp only [List.mem_cons, forall_eq_or_imp] at hd
      exact ⟨⟨x, hx, hd.1⟩, r, hr, hd.2⟩
end
/-- What unpack takes is what the reference calls valid. -/
theorem unpack_valid (es : List At) : unpackP es ≠ none ↔ es.length ≤ 1000 ∧ okP es 0 := by
  cases hk : kidsP es with
  | none =>
    rw [unpackP_none hk]
    refine ⟨fun h => absurd rfl h, ?_⟩
    rintro ⟨_, _, _, h, _⟩
    rw [hk] at h; cases h
  | some ks =>
    obtain ⟨a, rfl, hw⟩ := kidsP_some hk
    rw [okP_enc _ hw, okT_iff _ 0 hw (Int.le_refl _), unpackP_enc _ hw]
    by_cases hl : (T.node a ks).enc.length ≤ 1000
    · rw [if_pos hl]
      constructor
      · intro h
        obtain ⟨x, hx⟩ := Option.ne_none_iff_exists'.1 h
        obtain ⟨it, hit, _⟩ := Option.map_eq_some_iff.1 hx
        refine ⟨hl, it, hit, ?_⟩
        simp only [evalT, nodeI, Option.bind_eq_some_iff] at hit
        obtain ⟨k, _, v, _, hit⟩ := hit
        split at hit
        · cases hit
        · rename_i hn; cases hit; simp only; omega
      · rintro ⟨_, x, hx, _⟩
        rw [hx]; simp
    · rw [if_neg hl]
      exact ⟨fun h => absurd rfl h, fun h => absurd h.1 hl⟩
end Go.Proofs.YtmiihhbgfijcmaaGreat.K

