/- Values as trees of atoms: the postorder list, its reading by a stack of trees. -/
import Derived.Test.YtmiihhbgfijcmaaGreatV
namespace Go.Proofs.YtmiihhbgfijcmaaGreat.K
open Go Go.RowKit
set_option linter.unusedVariables false

inductive T where
  | node (a : At) (ks : List T)
def T.atom : T → At
  | .node a _ => a
def T.kids : T → List T
  | .node _ ks => ks
mutual
def T.enc : T → List At
  | .node a ks => T.encs ks ++ [a]
def T.encs : List T → List At
  | [] => []
  | t :: ts => T.enc t ++ T.encs ts
end
theorem encs_append : ∀ (a b : List T), T.encs (a ++ b) = T.encs a ++ T.encs b
  | [], b => by simp [T.encs]
  | t :: a, b => by simp [T.encs, encs_append a b]
theorem encs_one (t : T) : T.encs [t] = t.enc := by simp [T.encs]
theorem enc_eq (t : T) : t.enc = T.encs t.kids ++ [t.atom] := by cases t; simp [T.enc, T.kids, T.atom]
theorem enc_pos (t : T) : 0 < t.enc.length := by rw [enc_eq]; simp
theorem enc_last (t : T) : t.enc[t.enc.length - 1]? = some t.atom := by rw [enc_eq]; simp
def stepT (st : List T) (a : At) : Option (List T) :=
  if a.c < 0 ∨ a.c > st.length then none else some (st.take (st.length - a.c.toNat) ++ [.node a (st.drop (st.length - a.c.toNat))])
def runT (st : List T) (es : List At) : Option (List T) := es.foldlM stepT st
theorem runT_app (st : List T) (a b : List At) : runT st (a ++ b) = (runT st a).bind fun s => runT s b := by
  simp only [runT, List.foldlM_append]; rfl
theorem runT_one (st : List T) (a : At) : runT st [a] = stepT st a := by
  simp [runT]
theorem stepT_encs {st st' : List T} {a : At} (h : stepT st a = some st') : T.encs st' = T.encs st ++ [a] := by
  unfold stepT at h
  split at h
  · cases h
  · cases h
    rw [encs_append, encs_one, T.enc, ← List.append_assoc, ← encs_append, List.take_append_drop]
theorem runT_encs : ∀ (es : List At) {st st' : List T}, runT st es = some st' → T.encs st' = T.encs st ++ es
  | [], st, st', h => by simp [runT] at h; simp [h]
  | a :: es, st, st', h => by
    rw [show a :: es = [a] ++ es from rfl, runT_app, runT_one] at h
    cases hs : stepT st a with
    | none => rw [hs] at h; cases h
    | some s => rw [hs] at h; rw [runT_encs es h, stepT_encs hs]; simp
theorem stepT_node {st ks : List T} {a : At} (h : a.c = ks.length) : stepT (st ++ ks) a = some (st ++ [.node a ks]) := by
  unfold stepT
  have h0 : a.c.toNat = ks.length := by omega
  rw [if_neg (by simp; omega), h0]
  simp
/-- A tree whose atoms tell their kids' number. -/
inductive T.Wf : T → Prop
  | mk {a : At} {ks : List T} (h : a.c = ks.length) (hk : ∀ k ∈ ks, T.Wf k) : T.Wf (.node a ks)
mutual
theorem runT_enc : ∀ (t : T) (st : List T), t.Wf → runT st t.enc = some (st ++ [t])
  | .node a ks, st, h => by
    cases h with
    | mk h hk =>
      rw [T.enc, runT_app, runT_encs' ks st hk, Option.bind_some, runT_one, stepT_node h]
theorem runT_encs' : ∀ (ks : List T) (st : List T), (∀ k ∈ ks, T.Wf k) → runT st (T.encs ks) = some (st ++ ks)
  | [], st, _ => by simp [T.encs, runT]
  | t :: ts, st, h => by
    rw [T.encs, runT_app, runT_enc t st (h t (by simp)), Option.bind_some, runT_encs' ts _ (fun k hk => h k (by simp [hk]))]
    simp
end
theorem stepT_wf {st st' : List T} {a : At} (h : stepT st a = some st') (hw : ∀ t ∈ st, t.Wf) : ∀ t ∈ st', t.Wf := by
  unfold stepT at h
  split at h
  · cases h
  · rename_i hn
    cases h
    intro t ht
    rcases List.mem_append.1 ht with ht | ht
    · exact hw t (List.mem_of_mem_take ht)
    · rw [List.mem_singleton.1 ht]
      exact .mk (by simp; omega) fun k hk => hw k (List.mem_of_mem_drop hk)
theorem runT_wf : ∀ (es : List At) {st st' : List T}, runT st es = some st' → (∀ t ∈ st, t.Wf) → ∀ t ∈ st', t.Wf
  | [], st, st', h, hw => by simp [runT] at h; rw [← h]; exact hw
  | a :: es, st, st', h, hw => by
    rw [show a :: es = [a] ++ es from rfl, runT_app, runT_one] at h
    cases hs : stepT st a with
    | none => rw [hs] at h; cases h
    | some s => rw [hs] at h; exact runT_wf es h (stepT_wf hs hw)

/-- The kids of a value, as the reference finds them. -/
def kidsP (es : List At) : Option (List T) := match es.getLast? with
  | none => none
  | some a => (runT [] es.dropLast).bind fun st => if a.c = st.length then some st else none
theorem runT_step {es : List At} {i : Nat} {a : At} {st : List T} (hr : runT [] (es.take i) = some st) (ha : es[i]? = some a) : runT [] (es.take (i + 1)) = stepT st a := by
  obtain ⟨hlt, e⟩ := List.getElem?_eq_some_iff.1 ha
  rw [List.take_succ_eq_append_getElem hlt, runT_app, hr, Option.bind_some, e, runT_one]
theorem runT_more {es : List At} {i : Nat} (h : runT [] (es.take i) = none) : ∀ j, i ≤ j → runT [] (es.take j) = none := fun j hj => by
  rw [show es.take j = es.take i ++ (es.take j).drop i by rw [show es.take i = (es.take j).take i by rw [List.take_take, Nat.min_eq_left hj]]; rw [List.take_append_drop], runT_app, h]; rfl
theorem kidsP_bad {es : List At} {i : Nat} {a : At} {st : List T} (hr : runT [] (es.take i) = some st) (ha : es[i]? = some a) (hb : a.c < 0 ∨ a.c > st.length) : kidsP es = none := by
  obtain ⟨hlt, e⟩ := List.getElem?_eq_some_iff.1 ha
  have hne : es ≠ [] := by intro e; rw [e] at hlt; simp at hlt
  unfold kidsP
  rw [List.getLast?_eq_some_getLast hne]
  simp only
  by_cases hi : i = es.length - 1
  · subst hi
    rw [List.dropLast_eq_take, hr, Option.bind_some, if_neg]
    rw [List.getLast_eq_getElem, e]; omega
  · have : runT [] (es.take (i + 1)) = none := by rw [runT_step hr ha]; unfold stepT; rw [if_pos hb]
    rw [List.dropLast_eq_take, runT_more this _ (by omega)]; rfl
theorem kidsP_at {es : List At} {i : Nat} {a : At} {st : List T} (hr : runT [] (es.take i) = some st) (ha : es[i]? = some a) (hi : i = es.length - 1) : kidsP es = if a.c = st.length then some st else none := by
  obtain ⟨hlt, e⟩ := List.getElem?_eq_some_iff.1 ha
  have hne : es ≠ [] := by intro e; rw [e] at hlt; simp at hlt
  unfold kidsP
  rw [List.getLast?_eq_some_getLast hne]
  simp only
  subst hi
  rw [List.dropLast_eq_take, hr, Option.bind_some, List.getLast_eq_getElem, e]
theorem kidsP_enc (t : T) (h : t.Wf) : kidsP t.enc = some t.kids := by
  cases h with
  | mk h hk =>
    unfold kidsP
    rw [T.enc, List.getLast?_concat, List.dropLast_concat]
    simp only
    rw [runT_encs' _ [] hk, Option.bind_some, List.nil_append, if_pos h]
    rfl
theorem kidsP_some {es : List At} {ks : List T} (h : kidsP es = some ks) : ∃ a, es = T.enc (.node a ks) ∧ T.Wf (.node a ks) := by
  unfold kidsP at h
  cases hl : es.getLast? with
  | none => rw [hl] at h; cases h
  | some a =>
    rw [hl] at h
    simp only at h
    obtain ⟨st, h1, h2⟩ := Option.bind_eq_some_iff.1 h
    split at h2
    · rename_i hc
      cases h2
      refine ⟨a, ?_, .mk hc (runT_wf _ h1 (by simp))⟩
      have := runT_encs _ h1
      rw [T.enc, this, T.encs, List.nil_append]
      obtain ⟨ys, rfl⟩ := List.getLast?_eq_some_iff.1 hl
      rw [List.dropLast_concat]
    · cases h2

/-- Where each open value starts. -/
def offs (st : List T) : List Nat := (List.range st.length).map fun j => (T.encs (st.take j)).length
theorem offs_len (st : List T) : (offs st).length = st.length := by simp [offs]
theorem offs_get {st : List T} {j : Nat} (h : j < st.length) : (offs st)[j]? = some (T.encs (st.take j)).length := by
  simp [offs, h]
theorem offs_push (st : List T) (lo : Nat) (hlo : lo ≤ st.length) (t : T) : offs (st.take lo ++ [t]) = (offs st).take lo ++ [(T.encs (st.take lo)).length] := by
  apply List.ext_getElem?
  intro j
  have hl : (st.take lo).length = lo := by simp; omega
  have hl2 : ((offs st).take lo).length = lo := by simp [offs_len]; omega
  by_cases hj : j < lo
  · rw [offs_get (by simp; omega), List.getElem?_append_left (by omega), List.getElem?_take_of_lt hj, offs_get (by omega), List.take_append_of_le_length (by omega), List.take_take, Nat.min_eq_left (by omega)]
  · by_cases hj2 : j = lo
    · subst hj2
      rw [offs_get (by simp; omega), List.getElem?_append_right (by omega), hl2, Nat.sub_self, List.take_left' hl]; rfl
    · rw [List.getElem?_eq_none (by rw [offs_len]; simp; omega), List.getElem?_eq_none (by simp [offs_len]; omega)]
end Go.Proofs.YtmiihhbgfijcmaaGreat.K

