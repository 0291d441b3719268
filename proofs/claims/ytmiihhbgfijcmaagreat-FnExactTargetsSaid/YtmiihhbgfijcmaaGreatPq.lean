/- Op's plain law, first part: inner values and their atoms; bounds; validity of what is put together. -/
import Derived.Test.YtmiihhbgfijcmaaGreatOq
import Derived.Test.YtmiihhbgfijcmaaGreatFi
namespace Go.Proofs.YtmiihhbgfijcmaaGreat.K
open Go Go.RowKit
set_option linter.unusedVariables false
set_option linter.unusedSimpArgs false
theorem at_ext {a b : At} (h1 : a.k = b.k) (h2 : a.n = b.n) (h3 : a.t = b.t) (h4 : a.c = b.c) : a = b := by cases a; cases b; simp_all
theorem turn_pack : ∀ (ns : List ByteArray) (vs : List V), packVs (turnV ns vs) = packR ns vs
  | [], vs => by simp [turnV, packVs, packR]
  | n :: ns, [] => by simp [turnV, packVs, packR]
  | n :: ns, v :: vs => by simp [turnV, packVs, packR, packV, turn_pack ns vs]
theorem turn_ok : ∀ (ns : List ByteArray) (vs : List V) (d : Int), ns.length = vs.length → (okVs (turnV ns vs) d ↔ (∀ n ∈ ns, d ≤ 12 ∧ n.size ≤ 1000) ∧ okVs vs d)
  | [], [], d, _ => by simp [turnV, okVs]
  | n :: ns, v :: vs, d, h => by
    have ih := turn_ok ns vs d (by simpa using h)
    simp only [turnV, okVs, okV, ih, List.mem_cons, forall_eq_or_imp]
    constructor
    · rintro ⟨h1, h2, h3, h4⟩; exact ⟨⟨h1, h3⟩, h2, h4⟩
    · rintro ⟨⟨h1, h3⟩, h2, h4⟩; exact ⟨h1, h2, h3, h4⟩
theorem wf_c {a : At} {ks : List T} (h : (T.node a ks).Wf) : a.c = ks.length ∧ ∀ k ∈ ks, T.Wf k := by cases h; exact ⟨by assumption, by assumption⟩
mutual
theorem pack_eval : ∀ (t : T) (it : It), t.Wf → evalT t = some it → packV it.v = t.enc
  | .node a ks, it, hw, h => by
    obtain ⟨k, hk, hi⟩ := evalT_inner hw h
    obtain ⟨_, _, _, hp, _, _⟩ := evalT_node h
    obtain ⟨hc, hkw⟩ := wf_c hw
    have ih := packs_eval ks k hkw hk
    generalize it.v = v at hi
    rw [T.enc]
    cases hi with
    | none h1 h2 =>
      subst h2
      simp only [packV, T.encs, List.nil_append, List.cons.injEq, and_true]
      exact at_ext h1.symm (hp.1 (by omega) (by omega)).symm (hp.2.1 (by omega)).symm (hp.2.2 (by omega) (by omega)).symm
    | bool h1 h2 hn =>
      subst h2
      simp only [packV, T.encs, List.nil_append, List.cons.injEq, and_true]
      refine at_ext h1.symm ?_ (hp.2.1 (by omega)).symm (hp.2.2 (by omega) (by omega)).symm
      rcases hn with hn | hn <;> simp [hn]
    | int h1 h2 =>
      subst h2
      simp only [packV, T.encs, List.nil_append, List.cons.injEq, and_true]
      exact at_ext h1.symm rfl (hp.2.1 (by omega)).symm (hp.2.2 (by omega) (by omega)).symm
    | text h1 h2 hs =>
      subst h2
      simp only [packV, T.encs, List.nil_append, List.cons.injEq, and_true]
      exact at_ext h1.symm (hp.1 (by omega) (by omega)).symm rfl (hp.2.2 (by omega) (by omega)).symm
    | list h1 hl =>
      simp only [packV, ih]
      congr 2
      exact at_ext h1.symm (hp.1 (by omega) (by omega)).symm (hp.2.1 (by omega)).symm (by simp [hc, evalTs_len hk])
    | record h1 ns vs q hl hq hn hv ht hr =>
      simp only [packV]
      rw [← turn_pack, ht, ih]
      congr 2
      exact at_ext h1.symm (hp.1 (by omega) (by omega)).symm (hp.2.1 (by omega)).symm (by simp [hc, hl, hn])
theorem packs_eval : ∀ (ks : List T) (k : List It), (∀ t ∈ ks, T.Wf t) → evalTs ks = some k → packVs (k.map It.v) = T.encs ks
  | [], k, _, h => by simp [evalTs] at h; subst h; simp [packVs, T.encs]
  | t :: ts, k, hw, h => by
    simp only [evalTs, Option.bind_eq_some_iff, Option.some.injEq] at h
    obtain ⟨x, hx, r, hr, rfl⟩ := h
    simp only [List.map_cons, packVs, T.encs]
    rw [pack_eval t x (hw t (by simp)) hx, packs_eval ts r (fun k hk => hw k (by simp [hk])) hr]
end
mutual
theorem ok_eval : ∀ (t : T) (it : It) (d : Int), t.Wf → evalT t = some it → (okV it.v d ↔ okT t d)
  | .node a ks, it, d, hw, h => by
    obtain ⟨k, hk, hi⟩ := evalT_inner hw h
    obtain ⟨k', hk', hv', hp, _, _⟩ := evalT_node h
    rw [hk] at hk'
    cases hk'
    obtain ⟨hc, hkw⟩ := wf_c hw
    have hkind := (valOf_iff hc hk).1 (by rw [hv']; simp)
    have ih := oks_eval ks k (d + 1) hkw hk
    generalize it.v = v at hi
    rw [okT]
    simp only [hp, hkind, true_and]
    cases hi with
    | none h1 h2 => subst h2; simp [okV, okTs]
    | bool h1 h2 hn => subst h2; simp [okV, okTs]
    | int h1 h2 => subst h2; simp [okV, okTs]
    | text h1 h2 hs => subst h2; simp [okV, okTs, hs]
    | list h1 hl =>
      simp only [okV, ih, List.length_map, evalTs_len hk]
      simp [hl]
    | record h1 ns vs q hl hq hn hv ht hr =>
      have := turn_ok ns vs (d + 1) (by omega)
      rw [ht, ih] at this
      simp only [okV, this, hn]
      simp [hq]
theorem oks_eval : ∀ (ks : List T) (k : List It) (d : Int), (∀ t ∈ ks, T.Wf t) → evalTs ks = some k → (okVs (k.map It.v) d ↔ okTs ks d)
  | [], k, d, _, h => by simp [evalTs] at h; subst h; simp [okVs, okTs]
  | t :: ts, k, d, hw, h => by
    simp only [evalTs, Option.bind_eq_some_iff, Option.some.injEq] at h
    obtain ⟨x, hx, r, hr, rfl⟩ := h
    simp only [List.map_cons, okVs, okTs]
    rw [ok_eval t x d (hw t (by simp)) hx, oks_eval ts r d (fun k hk => hw k (by simp [hk])) hr]
end
theorem treeP_iff (es : List At) : treeP es ≠ none ↔ unpackP es ≠ none := by
  constructor
  · intro h
    obtain ⟨t, ht⟩ := Option.ne_none_iff_exists'.1 h
    obtain ⟨_, _, _, _, _, e⟩ := treeP_some ht
    rw [e]; simp
  · intro h e
    exact h (treeP_none e)
/-- What is put together is valid just if its inner value fits. -/
theorem right_iff {a : At} {ks : List T} {k : List It} {v : V} (hw : (T.node a ks).Wf) (hk : evalTs ks = some k) (hpk : packV v = T.encs ks ++ [a]) (hpl : Plain a) (hok : okV v 0 ↔ Kind a ks ∧ okVs (k.map It.v) 1) : treeP (T.node a ks).enc ≠ none ↔ fitsV v := by
  obtain ⟨hc, hkw⟩ := wf_c hw
  rw [treeP_iff, unpack_valid, okP_enc _ hw, okT, fitsV, hok, hpk, T.enc, oks_eval ks k 1 hkw hk]
  constructor
  · rintro ⟨h1, _, _, h2, h3⟩; exact ⟨⟨h2, h3⟩, h1⟩
  · rintro ⟨⟨h2, h3⟩, h1⟩; exact ⟨h1, by omega, hpl, h2, h3⟩
def rightA (l : List At) : List At × ByteArray := match treeP l with
  | some _ => (l, ⟨#[]⟩)
  | none => ([], wLarge)
theorem right_give {a : At} {ks : List T} {k : List It} {v : V} (hw : (T.node a ks).Wf) (hk : evalTs ks = some k) (hpk : packV v = T.encs ks ++ [a]) (hpl : Plain a) (hok : okV v 0 ↔ Kind a ks ∧ okVs (k.map It.v) 1) : outA (giveV v) = rightA (T.encs ks ++ [a]) := by
  have h := right_iff hw hk hpk hpl hok
  rw [T.enc] at h
  unfold rightA giveV
  by_cases hf : fitsV v
  · rw [if_pos hf]
    obtain ⟨t, ht⟩ := Option.ne_none_iff_exists'.1 (h.2 hf)
    rw [ht, outA, if_pos rfl, hpk]
  · rw [if_neg hf]
    have hn : treeP (T.encs ks ++ [a]) = none := by
      cases e : treeP (T.encs ks ++ [a]) with
      | none => rfl
      | some t => exact absurd (h.1 (by rw [e]; simp)) hf
    rw [hn, outA, if_neg (by decide)]
/-! ### A text, a list, a record put together -/
def tNode (s : ByteArray) : T := .node ⟨4, 0, s, 0⟩ []
theorem tNode_wf (s : ByteArray) : (tNode s).Wf := .mk (by simp) (by simp)
theorem give_text (s : ByteArray) : outA (giveV (.text s)) = rightA [⟨4, 0, s, 0⟩] := by
  have := right_give (a := ⟨4, 0, s, 0⟩) (ks := []) (k := []) (v := .text s) (tNode_wf s) rfl rfl ⟨fun _ _ => rfl, fun h => absurd rfl h, fun _ _ => rfl⟩ (by simp [okV, Kind, okVs])
  simpa [T.encs] using this
theorem give_list {ks : List T} {k : List It} (hkw : ∀ t ∈ ks, T.Wf t) (hk : evalTs ks = some k) : outA (giveV (.list (k.map It.v))) = rightA (T.encs ks ++ [⟨5, 0, ⟨#[]⟩, ks.length⟩]) := by
  have hl := evalTs_len hk
  refine right_give (.mk rfl hkw) hk ?_ ⟨fun _ _ => rfl, fun _ => rfl, fun h => absurd rfl h⟩ ?_
  · simp only [packV, packs_eval ks k hkw hk, List.length_map, hl]
  · simp only [okV, List.length_map, hl, Kind]
    simp
    omega
theorem give_record {ks : List T} {k : List It} {ns : List ByteArray} {vs : List V} (hkw : ∀ t ∈ ks, T.Wf t) (hk : evalTs ks = some k) (hn : ns.length = vs.length) (ht : turnV ns vs = k.map It.v) (hr : RecOk ks) : outA (giveV (.record ns vs)) = rightA (T.encs ks ++ [⟨6, 0, ⟨#[]⟩, ks.length⟩]) := by
  have hl := evalTs_len hk
  have hl2 := turnV_len ns vs hn
  rw [ht, List.length_map, hl] at hl2
  refine right_give (.mk rfl hkw) hk ?_ ⟨fun _ _ => rfl, fun _ => rfl, fun _ h => absurd rfl h⟩ ?_
  · simp only [packV]
    rw [← turn_pack, ht, packs_eval ks k hkw hk, hl2]
    simp
  · have := turn_ok ns vs 1 hn
    rw [ht] at this
    simp only [okV, Kind]
    rw [show (0 : Int) + 1 = 1 by rfl, this]
    have hm : ((ks.length : Int)).tmod 2 = 0 := by rw [Int.tmod_eq_emod_of_nonneg (by omega)]; omega
    simp [hm, hr]
    omega
end Go.Proofs.YtmiihhbgfijcmaaGreat.K

