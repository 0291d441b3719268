/- The order of values as trees; what the program's inner values are of them. -/
import Derived.Test.YtmiihhbgfijcmaaGreatPv
import Derived.Lib.Bytealg
namespace Go.Proofs.YtmiihhbgfijcmaaGreat.K
open Go Go.RowKit
set_option linter.unusedVariables false

theorem cmpB : ∀ (a b : List UInt8), Lib.compareBytes a b = if Op.bytesLess a b = true then -1 else if a = b then 0 else 1
  | [], [] => by simp [Lib.compareBytes, Op.bytesLess]
  | [], _ :: _ => by simp [Lib.compareBytes, Op.bytesLess]
  | _ :: _, [] => by simp [Lib.compareBytes, Op.bytesLess]
  | a :: x, b :: y => by
    simp only [Lib.compareBytes, Op.bytesLess, cmpB x y]
    by_cases h1 : a < b
    · simp [h1]
    · by_cases h2 : b < a
      · have h3 : a ≠ b := by rintro rfl; exact UInt8.lt_irrefl _ h2
        simp [h1, h2, h3]
      · have h3 : a = b := UInt8.le_antisymm (UInt8.not_lt.1 h2) (UInt8.not_lt.1 h1)
        subst h3
        simp [h1]
theorem ba_list (a b : ByteArray) : a.data.toList = b.data.toList ↔ a = b := by
  constructor
  · intro h; cases a; cases b; simp only at h; congr 1; exact Array.ext' h
  · rintro rfl; rfl
theorem toList_data (a : ByteArray) : a.toList = a.data.toList := ByteArray.toList_eq a
def cmpI (a b : Int) : Int := if a < b then -1 else if a = b then 0 else 1
mutual
def ordT : T → T → Int
  | .node a ks, u => if a.k ≠ u.atom.k then (if a.k < u.atom.k then -1 else 1) else if a.k = 2 ∨ a.k = 3 then cmpI a.n u.atom.n else if a.k = 4 then Lib.compareBytes a.t.data.toList u.atom.t.data.toList else ordTs ks u.kids
def ordTs : List T → List T → Int
  | [], [] => 0
  | [], _ :: _ => -1
  | _ :: _, [] => 1
  | x :: xs, y :: ys => if ordT x y ≠ 0 then ordT x y else ordTs xs ys
end
theorem ordTs_hit : ∀ (ks ls : List T) (i : Nat) (x y : T), ks[i]? = some x → ls[i]? = some y → (∀ (j : Nat) x y, j < i → ks[j]? = some x → ls[j]? = some y → ordT x y = 0) → ordT x y ≠ 0 → ordTs ks ls = ordT x y
  | [], ls, i, x, y, hx, _, _, _ => by simp at hx
  | k :: ks, [], i, x, y, _, hy, _, _ => by simp at hy
  | k :: ks, l :: ls, 0, x, y, hx, hy, _, hn => by
    simp at hx hy; subst hx; subst hy
    simp only [ordTs, if_pos hn]
  | k :: ks, l :: ls, i + 1, x, y, hx, hy, hz, hn => by
    have h0 := hz 0 k l (by omega) rfl rfl
    simp only [ordTs, h0]
    exact ordTs_hit ks ls i x y (by simpa using hx) (by simpa using hy) (fun j x y hj hx hy => hz (j + 1) x y (by omega) (by simpa using hx) (by simpa using hy)) hn
theorem ordTs_end : ∀ (ks ls : List T), (∀ (j : Nat) x y, ks[j]? = some x → ls[j]? = some y → ordT x y = 0) → ordTs ks ls = if ks.length = ls.length then 0 else if ks.length < ls.length then -1 else 1
  | [], [], _ => rfl
  | [], _ :: _, _ => by simp [ordTs]
  | _ :: _, [], _ => by simp [ordTs]
  | k :: ks, l :: ls, h => by
    have h0 := h 0 k l rfl rfl
    simp only [ordTs, h0]
    rw [ordTs_end ks ls fun j x y hx hy => h (j + 1) x y (by simpa using hx) (by simpa using hy)]
    simp

/-! ### A list of atoms, read as a valid tree -/
def treeP (es : List At) : Option T := match kidsP es, es.getLast? with
  | some ks, some a => if es.length ≤ 1000 ∧ (evalT (.node a ks)).isSome = true then some (.node a ks) else none
  | _, _ => none
theorem treeP_some {es : List At} {t : T} (h : treeP es = some t) : es = t.enc ∧ t.Wf ∧ es.length ≤ 1000 ∧ ∃ it, evalT t = some it ∧ unpackP es = some it.v := by
  unfold treeP at h
  cases hk : kidsP es with
  | none => simp [hk] at h
  | some ks =>
    obtain ⟨a, rfl, hw⟩ := kidsP_some hk
    have hl : (T.node a ks).enc.getLast? = some a := by rw [T.enc, List.getLast?_concat]
    rw [hk, hl] at h
    simp only at h
    split at h
    · rename_i hc
      cases h
      obtain ⟨it, hit⟩ := Option.isSome_iff_exists.1 hc.2
      exact ⟨rfl, hw, hc.1, it, hit, by rw [unpackP_enc _ hw, if_pos hc.1, hit]; rfl⟩
    · cases h
theorem treeP_none {es : List At} (h : treeP es = none) : unpackP es = none := by
  unfold treeP at h
  cases hk : kidsP es with
  | none => exact unpackP_none hk
  | some ks =>
    obtain ⟨a, rfl, hw⟩ := kidsP_some hk
    have hl : (T.node a ks).enc.getLast? = some a := by rw [T.enc, List.getLast?_concat]
    rw [hk, hl] at h
    simp only at h
    split at h
    · cases h
    · rename_i hc
      rw [unpackP_enc _ hw]
      split
      · rename_i hl'
        cases he : evalT (T.node a ks) with
        | none => rfl
        | some it => exact absurd ⟨hl', by rw [he]; rfl⟩ hc
      · rfl
def orderP (es fs : List At) : Int := match treeP es, treeP fs with
  | some t, some u => ordT t u
  | _, _ => 0

/-! ### What the inner value of a tree is -/
theorem evalT_node {a : At} {ks : List T} {it : It} (h : evalT (.node a ks) = some it) : ∃ k, evalTs ks = some k ∧ valOf a k = some it.v ∧ Plain a ∧ it.deep = depthOf 0 k ∧ it.deep ≤ 12 := by
  simp only [evalT, nodeI, Option.bind_eq_some_iff] at h
  obtain ⟨k, hk, v, hv, h⟩ := h
  split at h
  · cases h
  · rename_i hn
    cases h
    rw [not_or] at hn
    exact ⟨k, hk, hv, (want_eq a).1 (Decidable.not_not.1 hn.1), rfl, by simp only; omega⟩
def turnV : List ByteArray → List V → List V
  | n :: ns, v :: vs => .text n :: v :: turnV ns vs
  | _, _ => []
theorem turnV_len : ∀ (ns : List ByteArray) (vs : List V), ns.length = vs.length → (turnV ns vs).length = 2 * ns.length
  | [], [], _ => rfl
  | n :: ns, v :: vs, h => by simp only [turnV, List.length_cons]; rw [turnV_len ns vs (by simpa using h)]; omega
theorem turnV_get : ∀ (ns : List ByteArray) (vs : List V) (i : Nat) (n : ByteArray) (v : V), ns[i]? = some n → vs[i]? = some v → (turnV ns vs)[2 * i]? = some (.text n) ∧ (turnV ns vs)[2 * i + 1]? = some v
  | [], vs, i, n, v, h, _ => by simp at h
  | _ :: ns, [], i, n, v, _, h => by simp at h
  | a :: ns, b :: vs, 0, n, v, h1, h2 => by simp at h1 h2; subst h1; subst h2; simp [turnV]
  | a :: ns, b :: vs, i + 1, n, v, h1, h2 => by
    have := turnV_get ns vs i n v (by simpa using h1) (by simpa using h2)
    rw [show 2 * (i + 1) = 2 * i + 1 + 1 by omega]
    simpa [turnV] using this
theorem turnV_app : ∀ (ns : List ByteArray) (vs : List V) (n : ByteArray) (v : V), ns.length = vs.length → turnV (ns ++ [n]) (vs ++ [v]) = turnV ns vs ++ [.text n, v]
  | [], [], n, v, _ => rfl
  | a :: ns, b :: vs, n, v, h => by simp [turnV, turnV_app ns vs n v (by simpa using h)]
theorem recGo_turn : ∀ (q : Nat) (ks : List T) (k : List It) (ns : List ByteArray) (vs : List V) (p : List ByteArray × List V), ks.length = 2 * q → evalTs ks = some k → ns.length = vs.length → recGo k ns vs = some p → turnV p.1 p.2 = turnV ns vs ++ k.map It.v ∧ p.1.length = p.2.length ∧ p.1.length = ns.length + q
  | 0, ks, k, ns, vs, p, hl, he, hn, h => by
    have : ks = [] := List.eq_nil_of_length_eq_zero (by omega)
    subst this
    simp [evalTs] at he
    subst he
    simp [recGo] at h
    subst h
    simp [hn]
  | q + 1, ks, k, ns, vs, p, hl, he, hn, h => by
    match ks, hl with
    | x :: y :: r, hl =>
      simp only [evalTs, Option.bind_eq_some_iff, Option.some.injEq] at he
      obtain ⟨a, ha, _, ⟨b, hb, s, hs, rfl⟩, rfl⟩ := he
      obtain ⟨t1, t2⟩ := evalT_text ha
      rw [recGo] at h
      by_cases h4 : x.atom.k = 4
      · rw [if_neg (by rw [t1]; simp [h4]), t2 h4] at h
        simp only at h
        split at h
        · cases h
        · have := recGo_turn q r s _ _ p (by simp at hl; omega) hs (by simp [hn]) h
          rw [turnV_app _ _ _ _ hn] at this
          refine ⟨?_, this.2.1, by rw [this.2.2]; simp; omega⟩
          rw [this.1, List.append_assoc]
          simp [t2 h4]
      · rw [if_pos (by rw [t1]; simp [h4])] at h
        cases h
def kindV : V → Int
  | .none => 1
  | .bool _ => 2
  | .int _ => 3
  | .text _ => 4
  | .list _ => 5
  | .record _ _ => 6
/-- The inner value, by its atom's kind. -/
inductive Inner (a : At) (ks : List T) (k : List It) : V → Prop
  | none (h : a.k = 1) (hk : ks = []) : Inner a ks k .none
  | bool (h : a.k = 2) (hk : ks = []) (hn : a.n = 0 ∨ a.n = 1) : Inner a ks k (.bool (decide (a.n = 1)))
  | int (h : a.k = 3) (hk : ks = []) : Inner a ks k (.int a.n)
  | text (h : a.k = 4) (hk : ks = []) (hs : a.t.size ≤ 1000) : Inner a ks k (.text a.t)
  | list (h : a.k = 5) (hl : ks.length ≤ 200) : Inner a ks k (.list (k.map It.v))
  | record (h : a.k = 6) (ns : List ByteArray) (vs : List V) (q : Nat) (hl : ks.length = 2 * q) (hq : q ≤ 200) (hn : ns.length = q) (hv : vs.length = q) (ht : turnV ns vs = k.map It.v) (hr : RecOk ks) : Inner a ks k (.record ns vs)
theorem evalT_inner {a : At} {ks : List T} {it : It} (hw : (T.node a ks).Wf) (h : evalT (.node a ks) = some it) : ∃ k, evalTs ks = some k ∧ Inner a ks k it.v := by
  obtain ⟨k, hk, hv, hp, _, _⟩ := evalT_node h
  have hc : a.c = ks.length := by cases hw; assumption
  have hkind := (valOf_iff hc hk).1 (by rw [hv]; simp)
  have hnil : a.k ≠ 5 → a.k ≠ 6 → ks = [] := fun x y => List.eq_nil_of_length_eq_zero (by have := hp.2.2 x y; omega)
  refine ⟨k, hk, ?_⟩
  rcases hkind with h1 | h3 | ⟨h2, hn⟩ | ⟨h4, hs⟩ | ⟨h5, hl⟩ | ⟨h6, hm, hl, hr⟩
  · simp [valOf, h1] at hv
    rw [← hv]
    exact .none h1 (hnil (by omega) (by omega))
  · simp [valOf, h3] at hv
    rw [← hv]
    exact .int h3 (hnil (by omega) (by omega))
  · have : it.v = .bool (decide (a.n = 1)) := by
      simp only [valOf, h2] at hv
      rcases hn with hn | hn <;> simp [hn] at hv ⊢ <;> exact hv.symm
    rw [this]
    exact .bool h2 (hnil (by omega) (by omega)) hn
  · have : it.v = .text a.t := by
      simp only [valOf, h4] at hv
      have hs' : ¬ a.t.size > 1000 := by omega
      simp [hs'] at hv
      exact hv.symm
    rw [this]
    exact .text h4 (hnil (by omega) (by omega)) hs
  · have : it.v = .list (k.map It.v) := by
      simp only [valOf, h5] at hv
      have hl' : ¬ a.c > 200 := by omega
      simp [hl'] at hv
      exact hv.symm
    rw [this]
    exact .list h5 (by omega)
  · have hm' : a.c % 2 = 0 := by rwa [Int.tmod_eq_emod_of_nonneg (by omega)] at hm
    obtain ⟨q, hq⟩ : ∃ q, ks.length = 2 * q := ⟨ks.length / 2, by omega⟩
    have hd : ¬ a.c.tdiv 2 > 200 := by rw [Int.tdiv_eq_ediv_of_nonneg (by omega)]; omega
    simp only [valOf, h6] at hv
    simp [hm, hd] at hv
    obtain ⟨ns, vs, hgo, hv⟩ := hv
    obtain ⟨t1, t2, t3⟩ := recGo_turn q ks k [] [] (ns, vs) hq hk rfl hgo
    simp only [turnV, List.nil_append, List.length_nil, Nat.zero_add] at t1 t2 t3
    rw [← hv]
    exact .record h6 ns vs q hq (by omega) t3 (by omega) t1 hr
theorem Inner.kind {a : At} {ks : List T} {k : List It} {v : V} (h : Inner a ks k v) : kindV v = a.k := by
  cases h <;> simp_all [kindV]
end Go.Proofs.YtmiihhbgfijcmaaGreat.K

