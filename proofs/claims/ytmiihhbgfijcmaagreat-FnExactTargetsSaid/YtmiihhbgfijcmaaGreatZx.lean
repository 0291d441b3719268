/- How the row's argument is opened: a slice of what is told. -/
import Derived.Test.YtmiihhbgfijcmaaGreatZw
import Derived.Test.YtmiihhbgfijcmaaGreatRv
namespace Go.Proofs.YtmiihhbgfijcmaaGreat.K
open Go Go.RowKit Go.ChangeShapes Go.WideShapes Go.Deep
set_option linter.unusedVariables false
set_option maxRecDepth 100000
section
variable {H : Type} {enc : TypeId × Value → H} {W : World}
/-- A slice of whatever elements, opened. -/
theorem open_rows {α : Type} (f : α → List Value) {sz : Nat} (hf : ∀ a, (f a).length = sz) (hs : 0 < sz) (Q : α → Prop) (d : α) {fuel : Nat} {c : Value} {x : DataW H × List MemPlace} {P : Program} {t e : TypeId} (ht : P.underlying t = some (.slice e)) (hC : P.cellsOf e = sz)
    (elem : ∀ n cs' y, cs'.length = sz → DataW.trod enc P W 0 (fun _ => true) true n e cs' = some y → ∃ a, f a = cs' ∧ Q a)
    (h : DataW.trod enc P W 0 (fun _ => true) true fuel t [c] = some x) : ∃ es : List α, FRow (hv W) c es.length sz (es.flatMap f) ∧ ∀ a ∈ es, Q a := by
  rcases open_slice ht h with ⟨hcs, _⟩ | ⟨a, len, cap, m, n, D, Pl, hcs, hb, hl, hm, hmm, hx, hi⟩
  · refine ⟨[], ?_, by simp⟩
    simp only [List.cons.injEq, and_true] at hcs
    subst hcs
    exact ⟨by simp, by simp, ⟨none, 0, rfl, Nat.le_refl _⟩, .inl rfl⟩
  · simp only [List.cons.injEq, and_true] at hcs
    subst hcs
    simp only [if_true] at hmm
    subst hmm
    have key : ∀ i, i < len → ∃ b : α, (∀ (j : Nat) u, (f b)[j]? = some u → W.cell? (a.add (i * sz + j)) = some u) ∧ Q b := fun i hil => by
      obtain ⟨cs', hc, ht'⟩ := hi i (by omega)
      rw [hC] at hc
      obtain ⟨_, hcl, hat⟩ := World.cells?_some hc
      obtain ⟨b, hb, hq⟩ := elem _ _ _ hcl ht'
      refine ⟨b, fun j u hu => ?_, hq⟩
      have hj : j < sz := by have := (List.getElem?_eq_some_iff.1 hu).1; rwa [hf] at this
      rw [← Go.Deep.add_add, hat j hj, ← hb]
      exact hu
    obtain ⟨g, hg⟩ : ∃ g : Nat → α, ∀ i, i < len → (∀ (j : Nat) u, (f (g i))[j]? = some u → W.cell? (a.add (i * sz + j)) = some u) ∧ Q (g i) := by
      classical
      refine ⟨fun i => if hi : i < len then Classical.choose (key i hi) else d, fun i hi => ?_⟩
      simp only [dif_pos hi]
      exact Classical.choose_spec (key i hi)
    have hlen : ((List.range len).map g).length = len := by simp
    refine ⟨(List.range len).map g, ?_, ?_⟩
    · rw [hlen]
      refine row_of_cells (fun j u hu => ?_) (by rw [flat_len f hf, hlen]) hs hl hm
      have hj : j < len * sz := by
        have := (List.getElem?_eq_some_iff.1 hu).1
        rwa [flat_len f hf, hlen] at this
      have hq : j / sz < len := Nat.div_lt_of_lt_mul (by rwa [Nat.mul_comm] at hj)
      have hr : j % sz < sz := Nat.mod_lt _ hs
      have hcell : (f (g (j / sz)))[j % sz]? = some ((f (g (j / sz)))[j % sz]'(by rw [hf]; exact hr)) := List.getElem?_eq_getElem _
      have := flat_get f hf ((List.range len).map g) (j / sz) (j % sz) (g (j / sz)) _ (by simp [hq]) hcell
      have hdm : j / sz * sz + j % sz = j := by rw [Nat.mul_comm]; exact Nat.div_add_mod j sz
      rw [hdm] at this
      rw [this] at hu
      cases hu
      have h1 := (hg (j / sz) hq).1 (j % sz) _ hcell
      rwa [hdm] at h1
    · intro x hx
      obtain ⟨i, hi', rfl⟩ := List.mem_map.1 hx
      exact (hg i (List.mem_range.1 hi')).2
/-- One that is told, as it lies. -/
abbrev To := ByteArray × Value × List At
def toc (a : To) : List Value := tdc a.1 a.2.1
theorem toc_len (a : To) : (toc a).length = 2 := rfl
def ToOk (W : World) (a : To) : Prop := FRow (hv W) a.2.1 a.2.2.length 4 (rowA a.2.2) ∧ (∀ x ∈ a.2.2, x.t.size ≤ 9223372036854775807 ∧ (Lit.int .i64 x.k).wf = true ∧ (Lit.int .i64 x.n).wf = true ∧ (Lit.int .i64 x.c).wf = true) ∧ a.1.size ≤ 9223372036854775807
theorem open_tolds {v : Value} {d : DataW H} {p : List MemPlace} (hv' : Value.okWide Tryz.prog W .any 0 22 v) (h : DataW.Trod enc Tryz.prog W 0 (fun _ => true) true 22 v d p) :
    ∃ (ds : List Td) (xs : List Value), FRow (hv W) v ds.length 2 xs ∧ DRow (hv W) ds xs ∧ (∀ d ∈ ds, ∀ a ∈ d.2, a.t.size ≤ 9223372036854775807) ∧ (∀ d ∈ ds, ∀ a ∈ d.2, (Lit.int .i64 a.n).wf = true) ∧ ∀ d ∈ ds, d.1.size ≤ 9223372036854775807 := by
  obtain ⟨A, n, c, rfl⟩ := okWide_slice Tryz.underlying22 hv'
  obtain ⟨fuel, hf⟩ := h
  obtain ⟨es, h1, h2⟩ := open_rows (H := H) (enc := enc) (W := W) toc toc_len (by decide) (ToOk W) (⟨#[]⟩, .nilIface, []) (c := .slice A n c) Tryz.underlying22 (by kernel_rfl) (fun n cs' y hcl ht' => by
    obtain ⟨ys, n', _, _, _, hyl, hf⟩ := DataW.trod_struct Tryz.underlying40 ht'
    match cs', hcl with
    | [v0, v1], _ =>
      have r0 := hf 0 _ rfl
      have r1 := hf 1 _ rfl
      match ys, hyl with
      | [y0, y1], _ =>
        obtain ⟨x0, e0, _, w0⟩ := DataW.trod_string Tryz.underlying9 r0
        have e0' : [v0] = [.string x0] := e0
        simp only [List.cons.injEq, and_true] at e0'
        subst e0'
        obtain ⟨zs, n2, _, _, _, hzl, hg⟩ := DataW.trod_struct Tryz.underlying38 r1
        have q0 := hg 0 _ rfl
        match zs, hzl with
        | [z0], _ =>
          obtain ⟨bs, g1, g2⟩ := open_atoms (c := v1) Tryz.underlying36 Tryz.underlying139 (by kernel_rfl) ⟨rfl, Tryz.underlying3, by kernel_rfl⟩ ⟨rfl, Tryz.underlying2, by kernel_rfl⟩ ⟨rfl, Tryz.underlying9, by kernel_rfl⟩ ⟨rfl, Tryz.underlying3, by kernel_rfl⟩ q0
          exact ⟨(x0, v1, bs), rfl, g1, g2, w0⟩) hf
  refine ⟨es.map fun a => (a.1, a.2.2), es.flatMap toc, by rw [List.length_map]; exact h1, ⟨by rw [flat_len toc toc_len, List.length_map], fun i d hd => ?_⟩, ?_, ?_, ?_⟩
  · rw [List.getElem?_map, Option.map_eq_some_iff] at hd
    obtain ⟨a, ha, rfl⟩ := hd
    exact ⟨a.2.1, fun j u hu => flat_get toc toc_len es i j a u ha hu, (h2 a (List.mem_of_getElem? ha)).1⟩
  · intro d hd x hx
    obtain ⟨a, ha, rfl⟩ := List.mem_map.1 hd
    exact ((h2 a ha).2.1 x hx).1
  · intro d hd x hx
    obtain ⟨a, ha, rfl⟩ := List.mem_map.1 hd
    exact ((h2 a ha).2.1 x hx).2.2.1
  · intro d hd
    obtain ⟨a, ha, rfl⟩ := List.mem_map.1 hd
    exact (h2 a ha).2.2
end
end Go.Proofs.YtmiihhbgfijcmaaGreat.K
