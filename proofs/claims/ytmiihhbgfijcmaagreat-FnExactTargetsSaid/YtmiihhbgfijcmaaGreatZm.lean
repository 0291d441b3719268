/- Targets: a record's entries one by one come to the reference's target, in plain words. -/
import Derived.Test.YtmiihhbgfijcmaaGreatZl
namespace Go.Proofs.YtmiihhbgfijcmaaGreat.K
open Go Go.RowKit
set_option linter.unusedVariables false
set_option linter.unusedSimpArgs false
def kName : ByteArray := ⟨#[110, 97, 109, 101]⟩
def kTool : ByteArray := ⟨#[116, 111, 111, 108]⟩
def kArg : ByteArray := ⟨#[97, 114, 103]⟩
def kIns : ByteArray := ⟨#[105, 110, 115]⟩
def kOuts : ByteArray := ⟨#[111, 117, 116, 115]⟩
def goodE (n : ByteArray) (x : T) : Prop :=
  (n = kName ∧ x.atom.k = 4 ∧ x.atom.t ≠ ⟨#[]⟩) ∨ (n = kTool ∧ x.atom.k = 4 ∧ x.atom.t ≠ ⟨#[]⟩) ∨ (n = kArg ∧ x.atom.k = 4) ∨
  (n = kIns ∧ x.atom.k = 5 ∧ ∀ k ∈ x.kids, k.atom.k = 4 ∧ k.atom.t ≠ ⟨#[]⟩) ∨ (n = kOuts ∧ x.atom.k = 5 ∧ x.kids ≠ [] ∧ ∀ k ∈ x.kids, k.atom.k = 4 ∧ k.atom.t ≠ ⟨#[]⟩)
def txs (x : T) : List ByteArray := x.kids.map fun k => k.atom.t
def setE (s : Tg) (n : ByteArray) (x : T) : Tg :=
  if n = kName then { s with name := x.atom.t } else if n = kTool then { s with tool := x.atom.t } else if n = kArg then { s with arg := x.atom.t }
  else if n = kIns then { s with ins := txs x } else { s with outs := txs x }
def tg0 : Tg := ⟨⟨#[]⟩, ⟨#[]⟩, ⟨#[]⟩, [], []⟩
def foldE (s : Tg) (A : AL T) : Tg := A.foldl (fun s p => setE s p.1 p.2) s
theorem foldE_snoc (s : Tg) (A : AL T) (p : ByteArray × T) : foldE s (A ++ [p]) = setE (foldE s A) p.1 p.2 := by simp [foldE]
theorem kne : kTool ≠ kName ∧ kArg ≠ kName ∧ kIns ≠ kName ∧ kOuts ≠ kName ∧ kArg ≠ kTool ∧ kIns ≠ kTool ∧ kOuts ≠ kTool ∧ kIns ≠ kArg ∧ kOuts ≠ kArg ∧ kOuts ≠ kIns := by decide
def getA (A : AL T) (n : ByteArray) : Option T := getT (flatA A) n
theorem getA_nil (n : ByteArray) : getA [] n = none := rfl
theorem getA_cons (m : ByteArray) (x : T) (A : AL T) (n : ByteArray) : getA ((m, x) :: A) n = if m = n then some x else getA A n := rfl
theorem getA_none {A : AL T} {n : ByteArray} (h : n ∉ keysM A) : getA A n = none := by
  induction A with
  | nil => rfl
  | cons p A ih =>
    obtain ⟨m, x⟩ := p
    simp only [keysM, List.map_cons, List.mem_cons, not_or] at h
    rw [getA_cons, if_neg (fun e => h.1 e.symm)]
    exact ih h.2
theorem getA_some {A : AL T} {n : ByteArray} {x : T} (h : getA A n = some x) : (n, x) ∈ A := by
  induction A with
  | nil => cases h
  | cons p A ih =>
    obtain ⟨m, y⟩ := p
    rw [getA_cons] at h
    split at h
    · rename_i e; cases h; subst e; simp
    · exact List.mem_cons_of_mem _ (ih h)
theorem getA_at {A : AL T} (hn : (keysM A).Nodup) {n : ByteArray} {x : T} (h : (n, x) ∈ A) : getA A n = some x := by
  induction A with
  | nil => simp at h
  | cons p A ih =>
    obtain ⟨m, y⟩ := p
    have hn' : m ∉ keysM A ∧ (keysM A).Nodup := by simpa [keysM] using hn
    rw [getA_cons]
    rcases List.mem_cons.1 h with e | h
    · cases e; rw [if_pos rfl]
    · rw [if_neg (fun (e : m = n) => hn'.1 (by rw [e]; exact List.mem_map.2 ⟨(n, x), h, rfl⟩))]
      exact ih hn'.2 h
def orE {α : Type} (o : Option T) (f : T → α) (d : α) : α := match o with
  | some x => f x
  | none => d
/-- What the entries come to, field by field. -/
theorem foldE_get : ∀ (A : AL T) (s : Tg), (keysM A).Nodup → (∀ p ∈ A, p.1 = kName ∨ p.1 = kTool ∨ p.1 = kArg ∨ p.1 = kIns ∨ p.1 = kOuts) →
    foldE s A = ⟨orE (getA A kName) (fun x => x.atom.t) s.name, orE (getA A kTool) (fun x => x.atom.t) s.tool, orE (getA A kArg) (fun x => x.atom.t) s.arg, orE (getA A kIns) txs s.ins, orE (getA A kOuts) txs s.outs⟩
  | [], s, _, _ => rfl
  | (m, x) :: A, s, hn, hk => by
    have hn' : m ∉ keysM A ∧ (keysM A).Nodup := by simpa [keysM] using hn
    have ih := foldE_get A (setE s m x) hn'.2 (fun p hp => hk p (by simp [hp]))
    have e : foldE s ((m, x) :: A) = foldE (setE s m x) A := rfl
    have g := getA_none hn'.1
    have hm := hk (m, x) (by simp)
    obtain ⟨k1, k2, k3, k4, k5, k6, k7, k8, k9, k10⟩ := kne
    rw [e, ih]
    simp only [getA_cons]
    simp only at hm
    rcases hm with rfl | rfl | rfl | rfl | rfl
    · simp [g, orE, setE, k1.symm, k2.symm, k3.symm, k4.symm]
    · simp [g, orE, setE, k1, k5.symm, k6.symm, k7.symm]
    · simp [g, orE, setE, k2, k5, k8.symm, k9.symm]
    · simp [g, orE, setE, k3, k6, k8, k10.symm]
    · simp [g, orE, setE, k4, k7, k9, k10]
theorem listG_ok : ∀ (ks : List T) (acc : List ByteArray), ((listG ks acc).2 = true ↔ ∀ k ∈ ks, k.atom.k = 4 ∧ k.atom.t ≠ ⟨#[]⟩) ∧ ((listG ks acc).2 = true → (listG ks acc).1 = acc ++ ks.map fun k => k.atom.t)
  | [], acc => by simp [listG]
  | k :: r, acc => by
    have ih := listG_ok r (acc ++ [k.atom.t])
    rw [listG]
    by_cases h : k.atom.k ≠ 4 ∨ k.atom.t = ⟨#[]⟩
    · rw [if_pos h]
      simp only [Bool.false_eq_true, false_iff, List.mem_cons, forall_eq_or_imp, not_and, false_implies, and_true]
      intro h1
      rcases h with h | h
      · exact absurd h1.1 h
      · exact absurd h h1.2
    · rw [if_neg h, ih.1]
      rw [not_or, Decidable.not_not] at h
      simp only [List.mem_cons, forall_eq_or_imp]
      exact ⟨⟨fun e => ⟨h, e⟩, fun e => e.2⟩, fun e => by rw [ih.2 (ih.1.2 e)]; simp⟩
theorem keys5_iff (n : ByteArray) : n ∈ keys5 ↔ n = kName ∨ n = kTool ∨ n = kArg ∨ n = kIns ∨ n = kOuts := by
  simp only [keys5, List.mem_cons, List.not_mem_nil, or_false, kName, kTool, kArg, kIns, kOuts]
  constructor
  · rintro (h | h | h | h | h) <;> simp [h]
  · rintro (h | h | h | h | h) <;> simp [h]
theorem goodE_key {n : ByteArray} {x : T} (h : goodE n x) : n = kName ∨ n = kTool ∨ n = kArg ∨ n = kIns ∨ n = kOuts := by
  rcases h with h | h | h | h | h <;> simp [h.1]
open Classical in
/-- The reference's target of a record, out of its entries. -/
theorem tgA_fold {t : T} {A : AL T} (h6 : t.atom.k = 6) (hk : t.kids = flatA A) (hn : (keysM A).Nodup) : tgA t = if (∀ p ∈ A, goodE p.1 p.2) ∧ kName ∈ keysM A ∧ kTool ∈ keysM A ∧ kOuts ∈ keysM A then some (foldE tg0 A) else none := by
  obtain ⟨k1, k2, k3, k4, k5, k6, k7, k8, k9, k10⟩ := kne
  have tx : ∀ n need, textA t.kids n need = match getA A n with
    | none => (⟨#[]⟩, !need)
    | some x => (x.atom.t, decide (x.atom.k = 4) && (!need || decide (x.atom.t ≠ ⟨#[]⟩))) := fun n need => by rw [hk]; rfl
  have lx : ∀ n need, listA t.kids n need = match getA A n with
    | none => ([], !need)
    | some x => if x.atom.k ≠ 5 ∨ (need = true ∧ x.kids = []) then ([], false) else listG x.kids [] := fun n need => by rw [hk]; rfl
  have hkeys : (∀ (i : Nat) x, t.kids[2 * i]? = some x → x.atom.t ∈ keys5) ↔ ∀ p ∈ A, p.1 ∈ keys5 := by
    rw [hk]
    constructor
    · intro h p hp
      obtain ⟨i, hi⟩ := List.mem_iff_getElem?.1 hp
      exact h i _ (flatA_get hi).1
    · intro h i x hx
      have hi : i < A.length := by
        have := (List.getElem?_eq_some_iff.1 hx).1
        rw [flatA_len] at this; omega
      rw [(flatA_get (List.getElem?_eq_getElem hi)).1] at hx
      cases hx
      exact h _ (List.getElem_mem hi)
  have inA : ∀ n, n ∈ keysM A ↔ ∃ x, getA A n = some x := fun n => by
    constructor
    · intro h
      obtain ⟨p, hp, rfl⟩ := List.mem_map.1 h
      exact ⟨p.2, getA_at hn hp⟩
    · rintro ⟨x, hx⟩
      exact List.mem_map.2 ⟨_, getA_some hx, rfl⟩
  have e6 : ¬ t.atom.k ≠ 6 := fun e => e h6
  rw [tgA, if_neg e6]
  by_cases hK : ∀ p ∈ A, p.1 ∈ keys5
  · rw [if_neg (fun e => e (hkeys.2 hK))]
    have hK' : ∀ p ∈ A, p.1 = kName ∨ p.1 = kTool ∨ p.1 = kArg ∨ p.1 = kIns ∨ p.1 = kOuts := fun p hp => (keys5_iff _).1 (hK p hp)
    rw [foldE_get A tg0 hn hK']
    have b1 : (textA t.kids kName true).2 = true ↔ ∃ x, getA A kName = some x ∧ goodE kName x := by
      rw [tx]
      cases getA A kName with
      | none => simp
      | some x => simp [goodE, k1.symm, k2.symm, k3.symm, k4.symm]
    have b2 : (textA t.kids kTool true).2 = true ↔ ∃ x, getA A kTool = some x ∧ goodE kTool x := by
      rw [tx]
      cases getA A kTool with
      | none => simp
      | some x => simp [goodE, k1, k5.symm, k6.symm, k7.symm]
    have b3 : (textA t.kids kArg false).2 = true ↔ ∀ x, getA A kArg = some x → goodE kArg x := by
      rw [tx]
      cases getA A kArg with
      | none => simp
      | some x => simp [goodE, k2, k5, k8.symm, k9.symm]
    have b4 : (listA t.kids kIns false).2 = true ↔ ∀ x, getA A kIns = some x → goodE kIns x := by
      rw [lx]
      cases getA A kIns with
      | none => simp
      | some x =>
        simp only [Option.some.injEq, forall_eq', Bool.false_eq_true, false_and, or_false]
        by_cases h5 : x.atom.k = 5
        · rw [if_neg (fun e => e h5), (listG_ok x.kids []).1]
          simp [goodE, k3, k6, k8, k10.symm, h5]
        · rw [if_pos h5]
          simp [goodE, k3, k6, k8, k10.symm, h5]
    have b5 : (listA t.kids kOuts true).2 = true ↔ ∃ x, getA A kOuts = some x ∧ goodE kOuts x := by
      rw [lx]
      cases getA A kOuts with
      | none => simp
      | some x =>
        simp only [Option.some.injEq, exists_eq_left', true_and]
        by_cases h5 : x.atom.k ≠ 5 ∨ x.kids = []
        · rw [if_pos h5]
          rcases h5 with h5 | h5 <;> simp [goodE, k4, k7, k9, k10, h5]
        · rw [if_neg h5, (listG_ok x.kids []).1]
          rw [not_or, Decidable.not_not] at h5
          simp [goodE, k4, k7, k9, k10, h5]
    have hall : ((textA t.kids ⟨#[110, 97, 109, 101]⟩ true).2 && (textA t.kids ⟨#[116, 111, 111, 108]⟩ true).2 && (textA t.kids ⟨#[97, 114, 103]⟩ false).2 && (listA t.kids ⟨#[105, 110, 115]⟩ false).2 && (listA t.kids ⟨#[111, 117, 116, 115]⟩ true).2) = true ↔ (∀ p ∈ A, goodE p.1 p.2) ∧ kName ∈ keysM A ∧ kTool ∈ keysM A ∧ kOuts ∈ keysM A := by
      have e1 : (textA t.kids ⟨#[110, 97, 109, 101]⟩ true).2 = (textA t.kids kName true).2 := rfl
      have e2 : (textA t.kids ⟨#[116, 111, 111, 108]⟩ true).2 = (textA t.kids kTool true).2 := rfl
      have e3 : (textA t.kids ⟨#[97, 114, 103]⟩ false).2 = (textA t.kids kArg false).2 := rfl
      have e4 : (listA t.kids ⟨#[105, 110, 115]⟩ false).2 = (listA t.kids kIns false).2 := rfl
      have e5 : (listA t.kids ⟨#[111, 117, 116, 115]⟩ true).2 = (listA t.kids kOuts true).2 := rfl
      rw [e1, e2, e3, e4, e5]
      simp only [Bool.and_eq_true, b1, b2, b3, b4, b5, inA]
      constructor
      · rintro ⟨⟨⟨⟨⟨x1, g1, h1⟩, ⟨x2, g2, h2⟩⟩, h3⟩, h4⟩, ⟨x5, g5, h5⟩⟩
        refine ⟨fun p hp => ?_, ⟨x1, g1⟩, ⟨x2, g2⟩, ⟨x5, g5⟩⟩
        have hg := getA_at hn (n := p.1) (x := p.2) hp
        rcases hK' p hp with e | e | e | e | e
        · rw [e] at hg ⊢; rw [g1] at hg; cases hg; exact h1
        · rw [e] at hg ⊢; rw [g2] at hg; cases hg; exact h2
        · rw [e] at hg ⊢; exact h3 _ hg
        · rw [e] at hg ⊢; exact h4 _ hg
        · rw [e] at hg ⊢; rw [g5] at hg; cases hg; exact h5
      · rintro ⟨hg, ⟨x1, g1⟩, ⟨x2, g2⟩, ⟨x5, g5⟩⟩
        exact ⟨⟨⟨⟨⟨x1, g1, hg _ (getA_some g1)⟩, ⟨x2, g2, hg _ (getA_some g2)⟩⟩, fun x gx => hg _ (getA_some gx)⟩, fun x gx => hg _ (getA_some gx)⟩, ⟨x5, g5, hg _ (getA_some g5)⟩⟩
    by_cases hc : (∀ p ∈ A, goodE p.1 p.2) ∧ kName ∈ keysM A ∧ kTool ∈ keysM A ∧ kOuts ∈ keysM A
    · rw [if_pos hc, if_pos (hall.2 hc)]
      have f1 : ∀ n need, (textA t.kids n need).1 = orE (getA A n) (fun x => x.atom.t) ⟨#[]⟩ := fun n need => by
        rw [tx]; cases getA A n <;> rfl
      have f2 : ∀ n need, (listA t.kids n need).2 = true → (listA t.kids n need).1 = orE (getA A n) txs [] := fun n need => by
        rw [lx]
        cases getA A n with
        | none => intro _; rfl
        | some x =>
          simp only
          split
          · intro h; cases h
          · intro h; exact ((listG_ok x.kids []).2 h).trans (by simp [txs, orE])
      have hb := hall.2 hc
      simp only [Bool.and_eq_true] at hb
      rw [f1, f1, f1, f2 _ _ hb.1.2, f2 _ _ hb.2]
      rfl
    · rw [if_neg hc, if_neg (fun e => hc (hall.1 e))]
  · rw [if_pos (fun e => hK (hkeys.1 e)), if_neg (fun e => hK fun p hp => (keys5_iff _).2 (goodE_key (e.1 p hp)))]
end Go.Proofs.YtmiihhbgfijcmaaGreat.K

