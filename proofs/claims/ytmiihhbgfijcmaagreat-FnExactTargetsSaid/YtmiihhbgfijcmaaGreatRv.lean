/- How a row's arguments that are values are opened: a row of atoms in memory. -/
import Derived.Test.YtmiihhbgfijcmaaGreatVw
import Derived.Deep.Slices
import Derived.Deep.Fields
import Derived.WideShapes
namespace Go.Proofs.YtmiihhbgfijcmaaGreat.K
open Go Go.RowKit Go.ChangeShapes Go.WideShapes Go.Deep
set_option linter.unusedVariables false
set_option maxRecDepth 100000

theorem row_of_cells {W : World} {a : Addr} {n c size : Nat} {xs : List Value} (h : ∀ j u, xs[j]? = some u → W.cell? (a.add j) = some u) (hl : xs.length = n * size) (hs : 0 < size) (hn : n ≤ c) (hc : c ≤ 9223372036854775807) : FRow (hv W) (.slice (some a) n c) n size xs := by
  refine ⟨hl, by omega, ⟨_, c, rfl, hn⟩, ?_⟩
  by_cases h0 : n = 0
  · exact .inl h0
  · refine .inr ?_
    have hpos : 0 < xs.length := by rw [hl]; exact Nat.mul_pos (by omega) hs
    have hz := h 0 _ (List.getElem?_eq_getElem hpos)
    have ha0 : a.add 0 = a := by simp [Addr.add]
    rw [ha0] at hz
    have hspot : a.spot = none := by
      simp only [World.cell?] at hz
      split at hz
      · split at hz
        · cases hz
        · rename_i hh; simpa using hh
      · cases hz
    obtain ⟨b, o, sp⟩ := a
    simp only at hspot
    subst hspot
    simp only [World.cell?] at hz
    split at hz
    · rename_i cs T fz hh
      refine ⟨b, o, c, cs, T, fz, rfl, hh, fun j u hu => ?_⟩
      have := h j u hu
      rw [add_plain] at this
      simp only [World.cell?, hh] at this
      simpa using this
    · cases hz

section
variable {H : Type} {enc : TypeId × Value → H} {W : World}
theorem open_atoms {fuel : Nat} {c : Value} {x : DataW H × List MemPlace} {P : Program} {t e : TypeId} {f0 f1 f2 f3 : Field} (ht : P.underlying t = some (.slice e)) (he : P.underlying e = some (.struct #[f0, f1, f2, f3])) (hC : P.cellsOf e = 4)
    (h0 : f0.offset = 0 ∧ P.underlying f0.type = some (.int .i64) ∧ P.cellsOf f0.type = 1) (h1 : f1.offset = 1 ∧ P.underlying f1.type = some (.int .i64) ∧ P.cellsOf f1.type = 1) (h2 : f2.offset = 2 ∧ P.underlying f2.type = some .string ∧ P.cellsOf f2.type = 1) (h3 : f3.offset = 3 ∧ P.underlying f3.type = some (.int .i64) ∧ P.cellsOf f3.type = 1)
    (h : DataW.trod enc P W 0 (fun _ => true) true fuel t [c] = some x) :
    ∃ es : List At, FRow (hv W) c es.length 4 (rowA es) ∧ ∀ a ∈ es, a.t.size ≤ 9223372036854775807 ∧ (Lit.int .i64 a.k).wf = true ∧ (Lit.int .i64 a.n).wf = true ∧ (Lit.int .i64 a.c).wf = true := by
  rcases open_slice ht h with ⟨hcs, _⟩ | ⟨a, len, cap, m, n, D, Pl, hcs, hb, hl, hm, hmm, hx, hi⟩
  · refine ⟨[], ?_, by simp⟩
    simp only [List.cons.injEq, and_true] at hcs
    subst hcs
    exact ⟨rfl, by simp, ⟨none, 0, rfl, Nat.le_refl _⟩, .inl rfl⟩
  · simp only [List.cons.injEq, and_true] at hcs
    subst hcs
    simp only [if_true] at hmm
    subst hmm
    have key : ∀ i, i < len → ∃ at_ : At, (∀ (j : Nat) u, at_.cells[j]? = some u → W.cell? (a.add (i * 4 + j)) = some u) ∧ at_.t.size ≤ 9223372036854775807 ∧ (Lit.int .i64 at_.k).wf = true ∧ (Lit.int .i64 at_.n).wf = true ∧ (Lit.int .i64 at_.c).wf = true := fun i hil => by
      obtain ⟨cs', hc, ht'⟩ := hi i (by omega)
      rw [hC] at hc
      obtain ⟨ys, n', hn', hy, hlen, hyl, hf⟩ := DataW.trod_struct he ht'
      obtain ⟨_, hcl, hat⟩ := World.cells?_some hc
      match cs', hcl with
      | [v0, v1, v2, v3], _ =>
        have q0 := hf 0 f0 rfl
        have q1 := hf 1 f1 rfl
        have q2 := hf 2 f2 rfl
        have q3 := hf 3 f3 rfl
        rw [h0.1, h0.2.2] at q0
        rw [h1.1, h1.2.2] at q1
        rw [h2.1, h2.2.2] at q2
        rw [h3.1, h3.2.2] at q3
        simp only [List.size_toArray, List.length_cons, List.length_nil] at hyl
        match ys, hyl with
        | [y0, y1, y2, y3], _ =>
          obtain ⟨x0, e0, _, w0⟩ := DataW.trod_int h0.2.1 q0
          obtain ⟨x1, e1, _, w1⟩ := DataW.trod_int h1.2.1 q1
          obtain ⟨x2, e2, _, w2⟩ := DataW.trod_string h2.2.1 q2
          obtain ⟨x3, e3, _, w3⟩ := DataW.trod_int h3.2.1 q3
          simp at e0 e1 e2 e3
          subst e0 e1 e2 e3
          refine ⟨⟨x0, x1, x2, x3⟩, fun j u hu => ?_, w2, w0, w1, w3⟩
          have hj : j < 4 := (List.getElem?_eq_some_iff.1 hu).1
          rw [← Go.Deep.add_add, hat j (by omega)]
          exact hu
    obtain ⟨f, hf⟩ : ∃ f : Nat → At, ∀ i, i < len → (∀ (j : Nat) u, (f i).cells[j]? = some u → W.cell? (a.add (i * 4 + j)) = some u) ∧ (f i).t.size ≤ 9223372036854775807 ∧ (Lit.int .i64 (f i).k).wf = true ∧ (Lit.int .i64 (f i).n).wf = true ∧ (Lit.int .i64 (f i).c).wf = true := by
      classical
      refine ⟨fun i => if hi : i < len then Classical.choose (key i hi) else ⟨0, 0, ⟨#[]⟩, 0⟩, fun i hi => ?_⟩
      simp only [dif_pos hi]
      exact Classical.choose_spec (key i hi)
    have hlen : ((List.range len).map f).length = len := by simp
    refine ⟨(List.range len).map f, ?_, ?_⟩
    · rw [hlen]
      refine row_of_cells (fun j u hu => ?_) (by rw [rowA, flat_len At.cells At.cells_len, hlen]) (by decide) hl hm
      have hj : j < len * 4 := by
        have := (List.getElem?_eq_some_iff.1 hu).1
        rwa [rowA, flat_len At.cells At.cells_len, hlen] at this
      have hq : j / 4 < len := by omega
      have hr : j % 4 < 4 := Nat.mod_lt _ (by decide)
      have hcell : (f (j / 4)).cells[j % 4]? = some ((f (j / 4)).cells[j % 4]'hr) := List.getElem?_eq_getElem _
      have := flat_get At.cells At.cells_len ((List.range len).map f) (j / 4) (j % 4) (f (j / 4)) _ (by simp [hq]) hcell
      have hdm : j / 4 * 4 + j % 4 = j := by omega
      rw [hdm] at this
      rw [rowA, this] at hu
      cases hu
      have h1 := (hf (j / 4) hq).1 (j % 4) _ hcell
      rwa [hdm] at h1
    · intro x hx
      obtain ⟨i, hi', rfl⟩ := List.mem_map.1 hx
      exact (hf i (List.mem_range.1 hi')).2
/-- A value by value, opened. -/
theorem open_value {v : Value} {d : DataW H} {p : List MemPlace} (hv' : Value.okWide Tryz.prog W .any 0 38 v) (h : DataW.Trod enc Tryz.prog W 0 (fun _ => true) true 38 v d p) :
    ∃ (s : Value) (es : List At), v = .agg #[s] ∧ FRow (hv W) s es.length 4 (rowA es) ∧ ∀ a ∈ es, a.t.size ≤ 9223372036854775807 ∧ (Lit.int .i64 a.k).wf = true ∧ (Lit.int .i64 a.n).wf = true ∧ (Lit.int .i64 a.c).wf = true := by
  obtain ⟨cs, rfl, hsz⟩ := okWide_struct Tryz.underlying38 hv'
  have h37 : Tryz.prog.cellsOf 38 = 1 := by kernel_rfl
  rw [h37] at hsz
  obtain ⟨fuel, hf⟩ := h
  obtain ⟨xs, n, _, hx, _, hlen, hg⟩ := DataW.trod_struct Tryz.underlying38 hf
  obtain ⟨s, rfl⟩ : ∃ s, cs = #[s] := by
    match cs, hsz with
    | ⟨[s]⟩, _ => exact ⟨s, rfl⟩
  have q0 := hg 0 _ rfl
  have h35 : Tryz.prog.cellsOf 36 = 1 := by kernel_rfl
  simp only [Value.cells] at q0
  match xs, hlen with
  | [y], _ =>
    obtain ⟨es, h1, h2⟩ := open_atoms Tryz.underlying36 Tryz.underlying139 (by kernel_rfl) ⟨rfl, Tryz.underlying3, by kernel_rfl⟩ ⟨rfl, Tryz.underlying2, by kernel_rfl⟩ ⟨rfl, Tryz.underlying9, by kernel_rfl⟩ ⟨rfl, Tryz.underlying3, by kernel_rfl⟩ q0
    exact ⟨s, es, rfl, h1, h2⟩
end
end Go.Proofs.YtmiihhbgfijcmaaGreat.K

