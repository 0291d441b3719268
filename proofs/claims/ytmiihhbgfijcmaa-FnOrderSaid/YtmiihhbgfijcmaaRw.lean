/- How a row's argument that is a world is opened. -/
import Derived.Test.YtmiihhbgfijcmaaRv
import Derived.Test.YtmiihhbgfijcmaaLw
namespace Go.Proofs.Ytmiihhbgfijcmaa.K
open Go Go.RowKit Go.ChangeShapes Go.WideShapes Go.Deep
set_option linter.unusedVariables false
set_option maxRecDepth 100000
section
variable {H : Type} {enc : TypeId × Value → H} {W : World}
/-- A slice of whatever elements, opened. -/
theorem open_rows {α : Type} (f : α → List Value) {sz : Nat} (hf : ∀ a, (f a).length = sz) (hs : 0 < sz) (Q : α → Prop) (d : α) {fuel : Nat} {c : Value} {x : DataW H × List MemPlace} {P : Program} {t e : TypeId} (ht : P.underlying t = some (.slice e)) (hC : P.cellsOf e = sz)
    (elem : ∀ n cs' y, cs'.length = sz → DataW.trod enc P W 0 (fun _ => true) true n e cs' = some y → ∃ a, f a = cs' ∧ Q a)
    (h : DataW.trod enc P W 0 (fun _ => true) true fuel t [c] = some x) : ∃ es : List α, FRow (hv W) c es.length sz (es.flatMap f) ∧ ∀ a ∈ es, Q a := by
  rcases open_slice ht h with ⟨hcs, _⟩ | ⟨a, len, cap, m, n, D, Pl, hcs, hb, hl, hm, hmm, hx, hi⟩
  · refine ⟨[], ?_, by simp⟩
    simp only [List.cons.injEq, and_true] at hcs
    subst hcs
    exact ⟨by simp, by simp, ⟨none, 0, rfl, Nat.le_refl _⟩, .inl rfl⟩
  · simp only [List.cons.injEq, and_true] at hcs
    subst hcs
    simp only [if_true] at hmm
    subst hmm
    have key : ∀ i, i < len → ∃ b : α, (∀ (j : Nat) u, (f b)[j]? = some u → W.cell? (a.add (i * sz + j)) = some u) ∧ Q b := fun i hil => by
      obtain ⟨cs', hc, ht'⟩ := hi i (by omega)
      rw [hC] at hc
      obtain ⟨_, hcl, hat⟩ := World.cells?_some hc
      obtain ⟨b, hb, hq⟩ := elem _ _ _ hcl ht'
      refine ⟨b, fun j u hu => ?_, hq⟩
      have hj : j < sz := by have := (List.getElem?_eq_some_iff.1 hu).1; rwa [hf] at this
      rw [← Go.Deep.add_add, hat j hj, ← hb]
      exact hu
    obtain ⟨g, hg⟩ : ∃ g : Nat → α, ∀ i, i < len → (∀ (j : Nat) u, (f (g i))[j]? = some u → W.cell? (a.add (i * sz + j)) = some u) ∧ Q (g i) := by
      classical
      refine ⟨fun i => if hi : i < len then Classical.choose (key i hi) else d, fun i hi => ?_⟩
      simp only [dif_pos hi]
      exact Classical.choose_spec (key i hi)
    have hlen : ((List.range len).map g).length = len := by simp
    refine ⟨(List.range len).map g, ?_, ?_⟩
    · rw [hlen]
      refine row_of_cells (fun j u hu => ?_) (by rw [flat_len f hf, hlen]) hs hl hm
      have hj : j < len * sz := by
        have := (List.getElem?_eq_some_iff.1 hu).1
        rwa [flat_len f hf, hlen] at this
      have hq : j / sz < len := Nat.div_lt_of_lt_mul (by rwa [Nat.mul_comm] at hj)
      have hr : j % sz < sz := Nat.mod_lt _ hs
      have hcell : (f (g (j / sz)))[j % sz]? = some ((f (g (j / sz)))[j % sz]'(by rw [hf]; exact hr)) := List.getElem?_eq_getElem _
      have := flat_get f hf ((List.range len).map g) (j / sz) (j % sz) (g (j / sz)) _ (by simp [hq]) hcell
      have hdm : j / sz * sz + j % sz = j := by rw [Nat.mul_comm]; exact Nat.div_add_mod j sz
      rw [hdm] at this
      rw [this] at hu
      cases hu
      have h1 := (hg (j / sz) hq).1 (j % sz) _ hcell
      rwa [hdm] at h1
    · intro x hx
      obtain ⟨i, hi', rfl⟩ := List.mem_map.1 hx
      exact (hg i (List.mem_range.1 hi')).2
/-- A world by value, opened. -/
theorem open_world {v : Value} {d : DataW H} {p : List MemPlace} (hv' : Value.okWide Try.prog W .any 0 26 v) (h : DataW.Trod enc Try.prog W 0 (fun _ => true) true 26 v d p) :
    ∃ (s t : Value) (fs : List Fl) (ns : List ByteArray), v = .agg #[s, t] ∧ FRow (hv W) s fs.length 2 (rowF fs) ∧ FRow (hv W) t ns.length 1 (rowS ns) ∧ (∀ e ∈ fs, e.name.size ≤ 9223372036854775807 ∧ e.text.size ≤ 9223372036854775807) ∧ ∀ e ∈ ns, e.size ≤ 9223372036854775807 := by
  obtain ⟨cs, rfl, hsz⟩ := okWide_struct Try.underlying26 hv'
  have h26 : Try.prog.cellsOf 26 = 2 := by kernel_rfl
  rw [h26] at hsz
  obtain ⟨fuel, hf⟩ := h
  obtain ⟨xs, n, _, hx, _, hlen, hg⟩ := DataW.trod_struct Try.underlying26 hf
  obtain ⟨s, t, rfl⟩ : ∃ s t, cs = #[s, t] := by
    match cs, hsz with
    | ⟨[s, t]⟩, _ => exact ⟨s, t, rfl⟩
  have q0 := hg 0 _ rfl
  have q1 := hg 1 _ rfl
  match xs, hlen with
  | [y, z], _ =>
    obtain ⟨fs, h1, h2⟩ := open_rows (H := H) (enc := enc) (W := W) Fl.cells Fl.len (by decide) (fun e => e.name.size ≤ 9223372036854775807 ∧ e.text.size ≤ 9223372036854775807) ⟨⟨#[]⟩, ⟨#[]⟩⟩ (c := s) Try.underlying23 (by kernel_rfl) (fun n cs' y hcl ht' => by
      obtain ⟨ys, n', _, _, _, hyl, hf⟩ := DataW.trod_struct Try.underlying95 ht'
      match cs', hcl with
      | [v0, v1], _ =>
        have r0 := hf 0 _ rfl
        have r1 := hf 1 _ rfl
        match ys, hyl with
        | [y0, y1], _ =>
          obtain ⟨x0, e0, _, w0⟩ := DataW.trod_string Try.underlying9 r0
          obtain ⟨x1, e1, _, w1⟩ := DataW.trod_string Try.underlying9 r1
          have e0' : [v0] = [.string x0] := e0
          have e1' : [v1] = [.string x1] := e1
          simp only [List.cons.injEq, and_true] at e0' e1'
          subst e0' e1'
          exact ⟨⟨x0, x1⟩, rfl, w0, w1⟩) q0
    obtain ⟨ns, h3, h4⟩ := open_rows (H := H) (enc := enc) (W := W) sc sc_len (by decide) (fun e => e.size ≤ 9223372036854775807) ⟨#[]⟩ (c := t) Try.underlying24 (by kernel_rfl) (fun n cs' y hcl ht' => by
      obtain ⟨x0, e0, _, w0⟩ := DataW.trod_string Try.underlying9 ht'
      exact ⟨x0, e0.symm, w0⟩) q1
    exact ⟨s, t, fs, ns, rfl, h1, h3, h2, h4⟩
end
end Go.Proofs.Ytmiihhbgfijcmaa.K
