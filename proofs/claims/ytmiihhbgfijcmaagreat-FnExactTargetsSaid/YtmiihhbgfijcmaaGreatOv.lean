/- Op: what the program's own walk needs, in plain words: arguments seen by kind; answers. -/
import Derived.Test.YtmiihhbgfijcmaaGreatSl
namespace Go.Proofs.YtmiihhbgfijcmaaGreat.K
open Go Go.RowKit
set_option linter.unusedVariables false
set_option linter.unusedSimpArgs false
set_option maxRecDepth 20000
/-! ### Arguments -/
def NT (T : Nat) (a : Value) : Prop := a = .nilIface ∨ ∃ T' v, a = .iface T' v ∧ T' ≠ T
structure Arg (F : Fz) (t : T) (a : Value) : Prop where
  vt : Vt t
  ev : ∃ it, evalT t = some it ∧ Rep F it.v a
theorem Arg.mono {F G : Fz} {t : T} {a : Value} (h : Arg F t a) (hs : Sub F G) : Arg G t a := ⟨h.vt, by obtain ⟨it, h1, h2⟩ := h.ev; exact ⟨it, h1, h2.mono hs⟩⟩
section
variable {P : Program} {w0 : World} {F0 F : Fz} {L : List Ch} {R : Regs} {d : Option Nat} {ty : Nat} {pos : String} {af : Array Edge} {g : Option (Nat × Bool)}
theorem Val.taF {T xT : TypeId} {x : Operand} {a z : Value} {size bytes : Nat} (hN : NI P T) (hT : TI P T z size bytes) (hx : K.ev R x = a) (hn : NT T a) : Val P (Hp w0 F0 F L) R ⟨d, .typeAssert x xT T true, ty, pos, af, g⟩ (.tuple #[z, .bool false]) := by
  rcases hn with h | ⟨T', v, h, hne⟩
  · exact Val.ta0 hN hT (hx.trans h)
  · exact Val.taN hN hT (hx.trans h) hne
end
theorem Arg.inner {F : Fz} {t : T} {a : Value} (h : Arg F t a) : ∃ k v, evalTs t.kids = some k ∧ Inner t.atom t.kids k v ∧ Rep F v a := by
  obtain ⟨it, h1, h2⟩ := h.ev
  cases t with
  | node c ks =>
    obtain ⟨k, hk, hi⟩ := evalT_inner h.vt.wf h1
    exact ⟨k, it.v, hk, hi, h2⟩
theorem Arg.v4 {F : Fz} {t : T} {a : Value} (h : Arg F t a) : (t.atom.k = 2 ∧ (t.atom.n = 0 ∨ t.atom.n = 1) ∧ a = .iface 4 (.bool (decide (t.atom.n = 1)))) ∨ (t.atom.k ≠ 2 ∧ NT 4 a) := by
  obtain ⟨k, v, _, hi, hr⟩ := h.inner
  cases hi with
  | none h1 => exact .inr ⟨by omega, .inl (by simpa [Rep] using hr)⟩
  | bool h1 h2 h3 => exact .inl ⟨h1, h3, by simpa [Rep] using hr⟩
  | int h1 => exact .inr ⟨by omega, .inr ⟨2, _, by simpa [Rep] using hr, by decide⟩⟩
  | text h1 => exact .inr ⟨by omega, .inr ⟨9, _, by simpa [Rep] using hr, by decide⟩⟩
  | list h1 => simp only [Rep] at hr; obtain ⟨u, us, h3, _⟩ := hr; exact .inr ⟨by omega, .inr ⟨90, _, h3, by decide⟩⟩
  | record h1 => simp only [Rep] at hr; obtain ⟨u, us, s, h3, _⟩ := hr; exact .inr ⟨by omega, .inr ⟨92, _, h3, by decide⟩⟩
theorem Arg.v2 {F : Fz} {t : T} {a : Value} (h : Arg F t a) : (t.atom.k = 3 ∧ a = .iface 2 (.int .i64 t.atom.n)) ∨ (t.atom.k ≠ 3 ∧ NT 2 a) := by
  obtain ⟨k, v, _, hi, hr⟩ := h.inner
  cases hi with
  | none h1 => exact .inr ⟨by omega, .inl (by simpa [Rep] using hr)⟩
  | bool h1 h2 h3 => exact .inr ⟨by omega, .inr ⟨4, _, by simpa [Rep] using hr, by decide⟩⟩
  | int h1 => exact .inl ⟨h1, by simpa [Rep] using hr⟩
  | text h1 => exact .inr ⟨by omega, .inr ⟨9, _, by simpa [Rep] using hr, by decide⟩⟩
  | list h1 => simp only [Rep] at hr; obtain ⟨u, us, h3, _⟩ := hr; exact .inr ⟨by omega, .inr ⟨90, _, h3, by decide⟩⟩
  | record h1 => simp only [Rep] at hr; obtain ⟨u, us, s, h3, _⟩ := hr; exact .inr ⟨by omega, .inr ⟨92, _, h3, by decide⟩⟩
theorem Arg.v9 {F : Fz} {t : T} {a : Value} (h : Arg F t a) : (t.atom.k = 4 ∧ t.atom.t.size ≤ 1000 ∧ a = .iface 9 (.string t.atom.t)) ∨ (t.atom.k ≠ 4 ∧ NT 9 a) := by
  obtain ⟨k, v, _, hi, hr⟩ := h.inner
  cases hi with
  | none h1 => exact .inr ⟨by omega, .inl (by simpa [Rep] using hr)⟩
  | bool h1 h2 h3 => exact .inr ⟨by omega, .inr ⟨4, _, by simpa [Rep] using hr, by decide⟩⟩
  | int h1 => exact .inr ⟨by omega, .inr ⟨2, _, by simpa [Rep] using hr, by decide⟩⟩
  | text h1 h2 h3 => exact .inl ⟨h1, h3, by simpa [Rep] using hr⟩
  | list h1 => simp only [Rep] at hr; obtain ⟨u, us, h3, _⟩ := hr; exact .inr ⟨by omega, .inr ⟨90, _, h3, by decide⟩⟩
  | record h1 => simp only [Rep] at hr; obtain ⟨u, us, s, h3, _⟩ := hr; exact .inr ⟨by omega, .inr ⟨92, _, h3, by decide⟩⟩
theorem Arg.v110 {F : Fz} {t : T} {a : Value} (h : Arg F t a) : (t.atom.k = 5 ∧ ∃ k u us, evalTs t.kids = some k ∧ t.kids.length ≤ 200 ∧ a = .iface 90 u ∧ FRow F u t.kids.length 1 us ∧ Reps F (k.map It.v) us) ∨ (t.atom.k ≠ 5 ∧ NT 90 a) := by
  obtain ⟨k, v, hk, hi, hr⟩ := h.inner
  cases hi with
  | none h1 => exact .inr ⟨by omega, .inl (by simpa [Rep] using hr)⟩
  | bool h1 h2 h3 => exact .inr ⟨by omega, .inr ⟨4, _, by simpa [Rep] using hr, by decide⟩⟩
  | int h1 => exact .inr ⟨by omega, .inr ⟨2, _, by simpa [Rep] using hr, by decide⟩⟩
  | text h1 h2 h3 => exact .inr ⟨by omega, .inr ⟨9, _, by simpa [Rep] using hr, by decide⟩⟩
  | list h1 h2 =>
    simp only [Rep] at hr
    obtain ⟨u, us, h3, h4, h5⟩ := hr
    refine .inl ⟨h1, k, u, us, hk, h2, h3, ?_, h5⟩
    have := evalTs_len hk
    rw [List.length_map, this] at h4
    exact h4
  | record h1 => simp only [Rep] at hr; obtain ⟨u, us, s, h3, _⟩ := hr; exact .inr ⟨by omega, .inr ⟨92, _, h3, by decide⟩⟩
/-- A record's entry: its tree, its inner value, the value held. -/
abbrev En := T × It × Value
def trees (D : AL En) : AL T := D.map fun p => (p.1, p.2.1)
def vals (D : AL En) : List (ByteArray × Value) := D.map fun p => (p.1, p.2.2.2)
structure RD (F : Fz) (t : T) (x y : Value) (D : AL En) : Prop where
  kids : t.kids = flatA (trees D)
  sorted : Sorted D
  len : D.length ≤ 200
  each : ∀ p ∈ D, p.1.size ≤ 1000 ∧ evalT p.2.1 = some p.2.2.1 ∧ T.Wf p.2.1 ∧ Rep F p.2.2.1.v p.2.2.2
  rowX : FRow F x D.length 1 (D.map fun p => .string p.1)
  rowY : FRow F y D.length 1 (D.map fun p => p.2.2.2)
theorem mkD {F : Fz} : ∀ (A : AL T) (vs : List V) (us : List Value), (∀ (i : Nat) p, A[i]? = some p → ∃ it, evalT p.2 = some it ∧ vs[i]? = some it.v) → A.length = vs.length → Reps F vs us → ∃ D : AL En, trees D = A ∧ D.map (fun p => p.2.2.2) = us ∧ ∀ p ∈ D, evalT p.2.1 = some p.2.2.1 ∧ Rep F p.2.2.1.v p.2.2.2
  | [], vs, us, _, hl, hr => by
    obtain rfl := List.eq_nil_of_length_eq_zero hl.symm
    simp only [Reps] at hr
    subst hr
    exact ⟨[], rfl, rfl, by simp⟩
  | p :: A, [], us, _, hl, hr => by simp at hl
  | p :: A, v :: vs, us, he, hl, hr => by
    simp only [Reps] at hr
    obtain ⟨u, r, rfl, h1, h2⟩ := hr
    obtain ⟨it, hi, hv⟩ := he 0 p rfl
    simp at hv
    subst hv
    obtain ⟨D, e1, e2, e3⟩ := mkD A vs r (fun i q hq => by simpa using he (i + 1) q (by simpa using hq)) (by simpa using hl) h2
    refine ⟨(p.1, p.2, it, u) :: D, by simp only [trees, List.map_cons] at e1 ⊢; rw [e1], by simp [e2], ?_⟩
    simp only [List.mem_cons, forall_eq_or_imp]
    exact ⟨⟨hi, h1⟩, e3⟩
theorem sorted_trees {D : AL En} : Sorted D ↔ Sorted (trees D) := by
  unfold Sorted trees
  rw [List.pairwise_map]
theorem sorted_vals {D : AL En} : Sorted D ↔ Sorted (vals D) := by
  unfold Sorted vals
  rw [List.pairwise_map]
theorem flatA_wf {A : AL T} {p : ByteArray × T} (h : ∀ k ∈ flatA A, T.Wf k) (hp : p ∈ A) : T.Wf p.2 := h _ (List.mem_flatMap.2 ⟨p, hp, by simp⟩)
theorem Arg.v112 {F : Fz} {t : T} {a : Value} (h : Arg F t a) : (t.atom.k = 6 ∧ ∃ x y D, a = .iface 92 (.agg #[x, y]) ∧ RD F t x y D) ∨ (t.atom.k ≠ 6 ∧ NT 92 a) := by
  obtain ⟨k, v, hk, hi, hr⟩ := h.inner
  cases hi with
  | none h1 => exact .inr ⟨by omega, .inl (by simpa [Rep] using hr)⟩
  | bool h1 h2 h3 => exact .inr ⟨by omega, .inr ⟨4, _, by simpa [Rep] using hr, by decide⟩⟩
  | int h1 => exact .inr ⟨by omega, .inr ⟨2, _, by simpa [Rep] using hr, by decide⟩⟩
  | text h1 h2 h3 => exact .inr ⟨by omega, .inr ⟨9, _, by simpa [Rep] using hr, by decide⟩⟩
  | list h1 => simp only [Rep] at hr; obtain ⟨u, us, h3, _⟩ := hr; exact .inr ⟨by omega, .inr ⟨90, _, h3, by decide⟩⟩
  | record h1 ns vs q hl hq hn hv ht hro =>
    simp only [Rep] at hr
    obtain ⟨x, y, us, h3, h4, h5, h6, h7⟩ := hr
    obtain ⟨A, e1, e2, e3, e4, e5⟩ := rec_assoc q t.kids k ns vs hl h.vt.kid_wf hk hn hv ht (fun i x hx => (hro i x hx).1)
    obtain ⟨D, d1, d2, d3⟩ := mkD A vs us e5 (by omega) h7
    have hDl : D.length = q := by have := congrArg List.length d1; simp only [trees, List.length_map] at this; omega
    have hw := h.vt.kid_wf
    rw [e1, ← d1] at hw
    have hkey : ns = D.map (·.1) := by rw [← e2, ← d1]; simp [keysM, trees, Function.comp_def]
    refine .inl ⟨h1, x, y, D, h3, ⟨by rw [e1, d1], ?_, by omega, fun p hp => ?_, ?_, ?_⟩⟩
    · rw [sorted_trees, d1]; exact sorted_adj (e1 ▸ hro)
    · have hp' : (p.1, p.2.1) ∈ trees D := List.mem_map.2 ⟨p, hp, rfl⟩
      exact ⟨e3 _ (d1 ▸ hp'), (d3 p hp).1, flatA_wf (A := trees D) hw hp', (d3 p hp).2⟩
    · rw [hn, ← hDl] at h5
      rw [hkey, List.map_map] at h5
      exact h5
    · rw [hv, ← hDl, ← d2] at h6
      exact h6
/-! ### Answers -/
def PVA (F : Fz) (w0 : World) (l : List At × ByteArray) (e : Ending) (w : World) : Prop :=
  ∃ F' r v s, e = .returned (.tuple #[r, .string s]) ∧ Ext F w0 F' w ∧ Rep F' v r ∧ outA (v, s) = l ∧ (packV v).length ≤ 1048576
theorem PVA.mk {F w0 w} {F' : Fz} {l : List At × ByteArray} {v : V} {r : Value} {s : ByteArray} (hE : Ext F w0 F' w) (hr : Rep F' v r) (hl : outA (v, s) = l) (hb : (packV v).length ≤ 1048576) : PVA F w0 l (.returned (.tuple #[r, .string s])) w := ⟨F', r, v, s, rfl, hE, hr, hl, hb⟩
theorem outA_type : outA (.none, wType) = ([], wType) := rfl
theorem PVA.no {F w0 w} {F' : Fz} {l : List At × ByteArray} {s : ByteArray} (hE : Ext F w0 F' w) (hl : l = ([], s)) (hs : s ≠ ⟨#[]⟩) : PVA F w0 l (.returned (.tuple #[.nilIface, .string s])) w := .mk hE (v := .none) rfl (by rw [outA, if_neg hs, hl]) (by simp [packV])
theorem PVA.bool {F w0 w} {F' : Fz} {l : List At × ByteArray} {b : Bool} (hE : Ext F w0 F' w) (hl : l = boolA b) : PVA F w0 l (.returned (.tuple #[.iface 4 (.bool b), .string ⟨#[]⟩])) w := .mk hE (v := .bool b) rfl (by rw [outA, if_pos rfl, hl]; rfl) (by simp [packV])
theorem PVA.int {F w0 w} {F' : Fz} {l : List At × ByteArray} {n : Int} (hE : Ext F w0 F' w) (hl : l = ([⟨3, n, ⟨#[]⟩, 0⟩], ⟨#[]⟩)) : PVA F w0 l (.returned (.tuple #[.iface 2 (.int .i64 n), .string ⟨#[]⟩])) w := .mk hE (v := .int n) rfl (by rw [outA, if_pos rfl, hl]; rfl) (by simp [packV])
theorem PVA.give {F w0 w} {F' : Fz} {l : List At × ByteArray} {v : V} {r : Value} (hE : Ext F w0 F' w) (hr : Rep F' (giveV v).1 r) (hl : outA (giveV v) = l) (hb : (packV v).length ≤ 1048576) : PVA F w0 l (.returned (.tuple #[r, .string (giveV v).2])) w := .mk hE hr hl (by
  unfold giveV; split
  · exact hb
  · simp [packV])
/-! ### Records put together -/
theorem setA_map {α β : Type} (f : α → β) (n : ByteArray) (v : α) : ∀ (A : AL α) (d : Bool), setA n (f v) (A.map fun p => (p.1, f p.2)) d = (setA n v A d).map fun p => (p.1, f p.2)
  | [], d => by cases d <;> simp [setA]
  | (m, x) :: r, d => by
    have i1 := setA_map f n v r true
    have i2 := setA_map f n v r d
    have i3 := setA_map f n v r false
    cases d <;> by_cases h1 : ltN m n <;> by_cases h2 : m = n <;> simp [setA, h1, h2, i1, i3, ltN_irrefl]
theorem setAll_map {α β : Type} (f : α → β) : ∀ (B A : AL α), setAll (A.map fun p => (p.1, f p.2)) (B.map fun p => (p.1, f p.2)) = (setAll A B).map fun p => (p.1, f p.2)
  | [], A => rfl
  | p :: B, A => by
    have := setA_map f p.1 p.2 A false
    simp only [setAll, List.map_cons, List.foldl_cons]
    rw [this]
    exact setAll_map f B _
theorem setA_in {α : Type} {n : ByteArray} {v : α} : ∀ (A : AL α), ∀ p ∈ setA n v A false, p = (n, v) ∨ p ∈ A
  | [], p, h => by simp [setA] at h; exact .inl h
  | (m, x) :: r, p, h => by
    by_cases hk : ltN m n
    · have hmn := ltN_ne hk
      have e : setA n v ((m, x) :: r) false = (m, x) :: setA n v r false := by simp [setA, hk, hmn]
      rw [e, List.mem_cons] at h
      rcases h with h | h
      · exact .inr (by simp [h])
      · rcases setA_in r p h with h | h
        · exact .inl h
        · exact .inr (by simp [h])
    · have e : setA n v ((m, x) :: r) false = (n, v) :: ((if m ≠ n then [(m, x)] else []) ++ r.filter fun p => decide (p.1 ≠ n)) := by
        simp [setA, hk, setA_done]
      rw [e, List.mem_cons, List.mem_append, List.mem_filter] at h
      rcases h with h | h | h
      · exact .inl h
      · split at h
        · exact .inr (by simp at h; simp [h])
        · simp at h
      · exact .inr (by simp [h.1])
theorem setAll_in {α : Type} : ∀ (B A : AL α), ∀ p ∈ setAll A B, p ∈ A ∨ p ∈ B
  | [], A, p, h => .inl h
  | q :: B, A, p, h => by
    rcases setAll_in B _ p h with h | h
    · rcases setA_in A p h with h | h
      · exact .inr (by rw [h]; simp)
      · exact .inl h
    · exact .inr (by simp [h])
theorem setAll_sum : ∀ (B A : AL T), (T.encs (flatA (setAll A B))).length ≤ (T.encs (flatA A)).length + (T.encs (flatA B)).length
  | [], A => by simp [setAll]
  | p :: B, A => by
    have h1 := setAll_sum B (setA p.1 p.2 A false)
    have h2 := setA_sum (n := p.1) (v := p.2) A
    rw [← encs_sum, ← encs_sum] at h2
    have h3 : (T.encs (flatA (p :: B))).length = (1 + p.2.enc.length) + (T.encs (flatA B)).length := by rw [encs_sum, encs_sum]; simp
    have e : setAll A (p :: B) = setAll (setA p.1 p.2 A false) B := rfl
    rw [e]; omega
theorem evalTs_flat : ∀ (D : AL En), (∀ p ∈ D, p.1.size ≤ 1000 ∧ evalT p.2.1 = some p.2.2.1) → ∃ k, evalTs (flatA (trees D)) = some k ∧ turnV (D.map (·.1)) (D.map fun p => p.2.2.1.v) = k.map It.v
  | [], _ => ⟨[], rfl, rfl⟩
  | p :: D, h => by
    obtain ⟨k, h1, h2⟩ := evalTs_flat D fun p hp => h p (by simp [hp])
    have hp := h p (by simp)
    have e : flatA (trees (p :: D)) = tNode p.1 :: p.2.1 :: flatA (trees D) := by simp [flatA, trees]
    refine ⟨⟨.text p.1, 0, true⟩ :: p.2.2.1 :: k, ?_, ?_⟩
    · rw [e]; simp [evalTs, tNode_eval hp.1, hp.2, h1]
    · simp [turnV, h2]
theorem reps_of {F : Fz} : ∀ (D : AL En), (∀ p ∈ D, Rep F p.2.2.1.v p.2.2.2) → Reps F (D.map fun p => p.2.2.1.v) (D.map fun p => p.2.2.2)
  | [], _ => rfl
  | p :: D, h => ⟨_, _, rfl, h p (by simp), reps_of D fun p hp => h p (by simp [hp])⟩
/-- The union of two records, given. -/
theorem record_union {F : Fz} {t u : T} {x y x' y' : Value} {D E : AL En} (hvt : Vt t) (hvu : Vt u) (hD : RD F t x y D) (hE : RD F u x' y' E) (M : SMap) (hM : M = updAll (updAll [] (vals D)) (vals E)) :
    ∃ (ns : List ByteArray) (vs : List V) (us : List Value), sortB (keysM M) = ns ∧ (sortB (keysM M)).map (fun k => lookM M k .nilIface) = us ∧ M.length = ns.length ∧ ns.length = vs.length ∧ Reps F vs us ∧ outA (giveV (.record ns vs)) = rightA (T.encs (addTl t.kids u.kids) ++ [⟨6, 0, ⟨#[]⟩, (addTl t.kids u.kids).length⟩]) ∧ (packV (.record ns vs)).length ≤ 1048576 := by
  have hsD := sorted_vals.1 hD.sorted
  have hsE := sorted_vals.1 hE.sorted
  rw [updAll_self _ (sorted_keys hsD)] at hM
  have hmem := same_mem (vals E) (vals D) (vals D) hsD (sorted_keys hsD) (fun _ _ => Iff.rfl)
  have hnd := updAll_nodup (vals E) (vals D) (sorted_keys hsD)
  rw [← hM] at hmem hnd
  obtain ⟨s1, s2⟩ := sortB_sorted (z := Value.nilIface) (setAll_sorted (vals E) (vals D) hsD) hnd hmem
  have hC : setAll (vals D) (vals E) = vals (setAll D E) := setAll_map (fun p : En => p.2.2) E D
  have hCt : setAll (trees D) (trees E) = trees (setAll D E) := setAll_map (fun p : En => p.1) E D
  rw [hC] at s1 s2
  have hsS := setAll_sorted E D hD.sorted
  have hin : ∀ p ∈ setAll D E, p.1.size ≤ 1000 ∧ evalT p.2.1 = some p.2.2.1 ∧ T.Wf p.2.1 ∧ Rep F p.2.2.1.v p.2.2.2 := fun p hp => (setAll_in E D p hp).elim (hD.each p) (hE.each p)
  obtain ⟨k, hk, htv⟩ := evalTs_flat (setAll D E) fun p hp => ⟨(hin p hp).1, (hin p hp).2.1⟩
  have hkw : ∀ z ∈ flatA (trees (setAll D E)), T.Wf z := by
    intro z hz
    obtain ⟨q, hq, hz⟩ := List.mem_flatMap.1 hz
    obtain ⟨p, hp, rfl⟩ := List.mem_map.1 hq
    simp only [List.mem_cons, List.not_mem_nil, or_false] at hz
    rcases hz with rfl | rfl
    · exact tNode_wf _
    · exact (hin p hp).2.2.1
  have hfl : addTl t.kids u.kids = flatA (trees (setAll D E)) := by rw [hD.kids, hE.kids, addTl_flat, hCt]
  refine ⟨(setAll D E).map (·.1), (setAll D E).map fun p => p.2.2.1.v, (setAll D E).map fun p => p.2.2.2, ?_, ?_, ?_, by simp, reps_of _ fun p hp => (hin p hp).2.2.2, ?_, ?_⟩
  · rw [s1]; simp [keysM, vals, Function.comp_def]
  · rw [s2]; simp [vals, Function.comp_def]
  · have h1 : (sortB (keysM M)).length = M.length := by rw [(sortB_perm (keysM M)).length_eq]; simp [keysM]
    rw [← h1, s1]; simp [keysM, vals]
  · have := give_record hkw hk (by simp) htv (recOk_flat (sorted_trees.1 hsS))
    rw [hfl]; exact this
  · simp only [packV, List.length_append, List.length_singleton]
    rw [← turn_pack, htv, packs_eval _ k hkw hk, ← hCt]
    have h1 := setAll_sum (trees E) (trees D)
    have h2 := hvt.kids_len
    have h3 := hvu.kids_len
    rw [hD.kids] at h2
    rw [hE.kids] at h3
    omega
end Go.Proofs.YtmiihhbgfijcmaaGreat.K


