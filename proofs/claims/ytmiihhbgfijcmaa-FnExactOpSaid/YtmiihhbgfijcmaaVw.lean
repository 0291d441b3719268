/- FnExactValidValue: the walk of the law. -/
import Derived.Test.YtmiihhbgfijcmaaPv
import Derived.Test.YtmiihhbgfijcmaaU
import Derived.Test.YtmiihhbgfijcmaaLv
namespace Go.Proofs.Ytmiihhbgfijcmaa.K
open Go Go.RowKit
set_option linter.unusedVariables false
set_option linter.unusedSimpArgs false
set_option maxRecDepth 20000
theorem C16 : CF Try.prog 16 := ⟨_, Try.func16, rfl, rfl⟩
theorem C18 : CF Try.prog 18 := ⟨_, Try.func18, rfl, rfl⟩
theorem C42 : CF Try.prog 42 := ⟨_, Try.func42, rfl, rfl⟩

theorem Ext.gain {F : Fz} {w w' : World} (hF : Sub F (hv w)) (hE : Ext F w F w') {b : Nat} {o : Obj} (hb : w.heap.size ≤ b) (hc : w'.heap[b]? = some o) : ∃ F', Ext F w F' w' ∧ F' b = some o := by
  have hn : F b = none := by
    cases e : F b with
    | none => rfl
    | some o' => exact absurd (hv_lt (hF b o' e)) (by omega)
  refine ⟨fun k => if k = b then some o else F k, ⟨hE.below, fun k o' hk => ?_, fun k hk => ?_, fun k o' hk => ?_⟩, by simp⟩
  · have : k ≠ b := by rintro rfl; rw [hn] at hk; cases hk
    simp [this, hk]
  · by_cases e : k = b
    · subst e; exact .inr hb
    · simp [e] at hk; exact .inl hk
  · by_cases e : k = b
    · subst e; simp at hk; subst hk; exact hc
    · simp [e] at hk; exact hE.sub k o' hk
theorem Ext.trans {F F' F'' : Fz} {w w' w'' : World} (h : Ext F w F' w') (h' : Ext F' w' F'' w'') : Ext F w F'' w'' :=
  ⟨h.below.trans (h'.below.mono h.below.size), h.ext.trans h'.ext, fun b hb => by
    rcases h'.new b hb with e | e
    · exact h.new b e
    · exact .inr (by have := h.below.size; omega), h'.sub⟩
theorem Hp.weak {w0 w : World} {F0 F F' : Fz} {L : List Ch} (h : Hp w0 F0 F' L w) (h1 : Sub F0 F) (h2 : Sub F F') : Hp w0 F0 F L w where
  below := h.below
  ext := h1
  new := fun b hb => h.new b (by
    cases e : F b with
    | none => exact absurd e hb
    | some o => rw [h2 b o e]; simp)
  sub := h2.trans h.sub
  holds := h.holds
  fresh := fun i c b hi hb => ⟨(h.fresh i c b hi hb).1, by
    cases e : F b with
    | none => rfl
    | some o => have := h2 b o e; rw [(h.fresh i c b hi hb).2] at this; cases this⟩
  disj := h.disj
theorem box_row {F : Fz} {b T m size : Nat} {cs : List Value} (hb : F b = some (.cells cs.toArray T (0, 0))) (hl : cs.length = m * size) (hm : m ≤ 9223372036854775807) : FRow F (.slice (some ⟨b, 0, none⟩) m m) m size cs :=
  ⟨hl, hm, ⟨_, m, rfl, Nat.le_refl _⟩, .inr ⟨b, 0, m, cs.toArray, T, (0, 0), rfl, hb, fun j u hu => by rw [Nat.zero_add]; simpa using hu⟩⟩
theorem toValue_row (F : Fz) (w : World) (hF : Sub F (hv w)) (v : Value) (es : List At) (hr : FRow F v es.length 4 (rowA es)) (hl : es.length ≤ 1048576) :
    Calls Try.prog 17 #[.agg #[v]] w fun e w' => ∃ F' s, e = .returned (.agg #[s]) ∧ Ext F w F' w' ∧ FRow F' s es.length 4 (rowA es) := by
  refine (toValue_calls F w hF v es hr hl).mono ?_
  rintro e w' ⟨b, rfl, hE, hb, hc⟩
  obtain ⟨F', hE', hb'⟩ := hE.gain hF hb hc
  exact ⟨F', _, rfl, hE', box_row hb' (rowA_len es) (by omega)⟩

theorem specValidValue_calls (F : Fz) (w0 : World) (hF : Sub F (hv w0)) (v : Value) (es : List At) (hr : FRow F v es.length 4 (rowA es)) (hB : es.length ≤ 1048576) :
    Calls Try.prog 16 #[.agg #[v]] w0 fun e w' => ∃ b, e = .returned (.bool b) ∧ (b = true ↔ unpackP es ≠ none) ∧ Ext F w0 F w' := by
  refine calls 11 Try.func16 rfl rfl rfl ?_
  have h := Hp.start hF
  refine W.seq (W.region rfl ?_)
  refine WL.box h rfl (fun b1 w h => ?_)
  refine WL.p h Val.as ?_
  refine WL.nil ?_
  refine W.seq (W.region rfl ?_)
  refine WL.p h (Val.fa O42_0 rfl) ?_
  refine WL.p h (Val.ld 0 A40 rfl rfl rfl) ?_
  refine WL.p h (Val.len Try.underlying40 rfl hr.val) ?_
  refine WL.p h (Val.le rfl rfl) ?_
  refine WL.dec (fun c1 => ?_) (fun c1 => ?_)
  · refine WL.p h Val.mv ?_
    refine WL.p h (Val.ldS 0 A42 T42 rfl rfl rfl) ?_
    refine WL.call C40 (args := [.agg #[v], .int .i64 0]) rfl ((l5Ok_calls _ F w h.sub v es hr hB 0 (by decide) (by decide) (Nat.le_refl _)).mono ?_)
    rintro e w' ⟨b, rfl, hb, hE⟩
    have h := h.call hE
    refine ⟨_, rfl, ?_⟩
    refine WL.p h (Val.pick rfl) ?_
    refine WL.p h Val.as ?_
    refine WL.nil ?_
    refine W.ret ?_
    refine fin1 (v := .bool b) rfl rfl ⟨b, rfl, ?_, h.toExt⟩
    rw [hb, unpack_valid]
    exact ⟨fun h => ⟨by omega, h⟩, fun h => h.2⟩
  · refine WL.p h Val.mv ?_
    refine WL.no rfl (WL.no rfl (?_))
    refine WL.p h (Val.pick rfl) ?_
    refine WL.p h Val.as ?_
    refine WL.nil ?_
    refine W.ret ?_
    refine fin1 (v := .bool false) rfl rfl ⟨false, rfl, ?_, h.toExt⟩
    rw [unpack_valid]
    exact ⟨fun h => (by cases h), fun h => by have := h.1; omega⟩

theorem implValidValue_calls (F : Fz) (w0 : World) (hF : Sub F (hv w0)) (v : Value) (es : List At) (hr : FRow F v es.length 4 (rowA es)) :
    Calls Try.prog 18 #[.agg #[v]] w0 fun e w' => ∃ b, e = .returned (.bool b) ∧ (b = true ↔ unpackP es ≠ none) ∧ Ext F w0 F w' := by
  refine calls 11 Try.func18 rfl rfl rfl ?_
  have h := Hp.start hF
  refine W.seq (W.region rfl ?_)
  refine WL.box h rfl (fun b1 w h => ?_)
  refine WL.p h Val.as ?_
  refine WL.nil ?_
  refine W.seq (W.region rfl ?_)
  refine WL.p h (Val.ldS 0 A42 T42 rfl rfl rfl) ?_
  refine WL.call C42 (args := [.agg #[v]]) rfl ((unpack_calls F w h.sub v es hr).mono ?_)
  rintro e w' ⟨F', u, ok, rfl, hE, hu⟩
  have h := h.call hE
  refine ⟨_, rfl, ?_⟩
  refine WL.p h Val.mv ?_
  refine WL.p h (Val.ext (v := u) rfl rfl) ?_
  refine WL.p h (Val.ext (v := .bool ok) rfl rfl) ?_
  refine WL.p h Val.as ?_
  refine WL.p h Val.as ?_
  refine WL.nil ?_
  refine W.seq (W.region rfl ?_)
  refine WL.p h Val.mv ?_
  refine WL.p h Val.as ?_
  refine WL.nil ?_
  refine W.ret ?_
  refine fin1 (v := .bool ok) rfl rfl ⟨ok, rfl, ?_, h.toExt.forget⟩
  cases hp : unpackP es with
  | none => rw [hp] at hu; simp [hu]
  | some x => rw [hp] at hu; simp [hu.1]

theorem lawValidValue_calls (F : Fz) (w0 : World) (hF : Sub F (hv w0)) (v : Value) (es : List At) (hr : FRow F v es.length 4 (rowA es)) (hs : ∀ e ∈ es, e.t.size ≤ 9223372036854775807) :
    Calls Try.prog 5 #[.agg #[v]] w0 fun e w' => e = .returned (.bool true) ∧ Below w0.heap.size w0 w' := by
  refine calls 27 Try.func5 rfl rfl rfl ?_
  have h := Hp.start hF
  refine W.seq (W.region rfl ?_)
  refine WL.box h rfl (fun b1 w h => ?_)
  refine WL.p h Val.as ?_
  refine WL.nil ?_
  refine W.seq (W.region rfl ?_)
  refine WL.p h Val.as ?_
  refine WL.nil ?_
  refine W.seq (W.region rfl ?_)
  refine WL.p h (Val.ldS 0 A37 T37 rfl rfl rfl) ?_
  refine WL.p h Val.mv ?_
  refine WL.call C15 (args := [.agg #[v], .int .i64 1048576]) rfl ((szValue_calls F w h.sub v es hr 1048576 (by decide) hs).mono ?_)
  rintro e w' ⟨r, rfl, hE, hr1, hr2⟩
  have h := h.call hE
  refine ⟨_, rfl, ?_⟩
  refine WL.p h Val.as ?_
  refine WL.nil ?_
  refine W.seq (W.seq (W.region rfl ?_))
  refine WL.p h Val.mv ?_
  refine WL.p h (Val.lt rfl rfl) ?_
  refine WL.dec (fun c => ?_) (fun c => ?_)
  · refine WL.nil ?_
    refine W.condT rfl ?_
    refine W.seq (W.region rfl ?_)
    refine WL.p h Val.as ?_
    refine WL.nil ?_
    refine W.ret ?_
    exact fin1 (v := .bool true) rfl rfl ⟨rfl, h.toExt.below⟩
  refine WL.nil ?_
  refine W.condF rfl ?_
  refine W.skip ?_
  have hB : es.length ≤ 1048576 := by have := (hr2 (by omega)).1; omega
  refine W.seq (W.region rfl ?_)
  refine WL.p h (Val.ldS 0 A37 T37 rfl rfl rfl) ?_
  refine WL.call C17 (args := [.agg #[v]]) rfl ((toValue_row F _ h.sub v es hr hB).mono ?_)
  rintro e w' ⟨F1, s1, rfl, hE, hrow1⟩
  have h := h.call hE
  have hr := hr.mono hE.ext
  refine ⟨_, rfl, ?_⟩
  refine WL.call C16 (args := [.agg #[s1]]) rfl ((specValidValue_calls F1 _ h.sub s1 es hrow1 hB).mono ?_)
  rintro e w' ⟨b, rfl, hb, hE⟩
  have h := h.call hE
  refine ⟨_, rfl, ?_⟩
  refine WL.p h Val.as ?_
  refine WL.nil ?_
  refine W.seq (W.region rfl ?_)
  refine WL.p h (Val.ldS 0 A37 T37 rfl rfl rfl) ?_
  refine WL.call C17 (args := [.agg #[v]]) rfl ((toValue_row F1 _ h.sub v es hr hB).mono ?_)
  rintro e w' ⟨F2, s2, rfl, hE, hrow2⟩
  have h := h.call hE
  have hr := hr.mono hE.ext
  refine ⟨_, rfl, ?_⟩
  refine WL.alloc h T42 (fun b5 w h => ?_)
  refine WL.stS 1 h rfl T42 rfl (vs := [s2]) rfl (by obtain ⟨A, c, rfl, _⟩ := hrow2.val; simp [Value.oneCell']) rfl rfl (fun w h => ?_)
  refine WL.nil ?_
  refine W.seq (W.region rfl ?_)
  refine WL.p h (Val.ldS 1 A42 T42 rfl rfl rfl) ?_
  refine WL.call C18 (args := [.agg #[s2]]) rfl ((implValidValue_calls F2 _ h.sub s2 es hrow2).mono ?_)
  rintro e w' ⟨b', rfl, hb', hE⟩
  have h := h.call hE
  refine ⟨_, rfl, ?_⟩
  have hbb : b' = b := by
    cases b <;> cases b' <;> simp_all
  subst hbb
  refine WL.p h Val.as ?_
  refine WL.nil ?_
  refine W.seq (W.seq (W.region rfl ?_))
  refine WL.p h Val.mv ?_
  refine WL.p h Val.mv ?_
  refine WL.p h (Val.boolNe Try.underlying4 rfl rfl) ?_
  refine WL.nil ?_
  refine W.condF (show Value.bool (b' != b') = _ by simp) ?_
  refine W.skip ?_
  refine W.seq (W.seq (W.draw (fun w => Hp w0 F F2 [.box b1 [v] 37, .box b5 [s2] 42] w) [] 5 (by kernel_rfl) rfl rfl ?_))
  have hS := h.drewN 1
  refine WD.take 0 rfl (by kernel_rfl) (fun _ _ _ h => fin_panic h) hS (Val.ldS 1 A42 T42 rfl rfl rfl) ?_
  refine WD.take 1 rfl (by kernel_rfl) (fun _ _ _ h => fin_panic h) hS (Val.ldS 0 A37 T37 rfl rfl rfl) ?_
  refine WD.one 2 rfl (by kernel_rfl) ?_
  refine WL.call C17 (args := [.agg #[v]]) rfl ((toValue_row F2 _ hS.sub v es hr hB).mono ?_)
  rintro e w' ⟨F3, s3, rfl, hE, hrow3⟩
  have h := hS.call hE
  have hS := h.weak (hS.ext) hE.ext
  refine ⟨_, rfl, ?_⟩
  refine WL.nil ?_
  refine ⟨hS, ?_⟩
  refine WD.one 3 rfl (by kernel_rfl) ?_
  refine WL.call C19 (args := [.agg #[s2], .agg #[s3]]) rfl ((eqValue_calls F3 _ h.sub s2 s3 es es (hrow2.mono hE.ext) hrow3).mono ?_)
  rintro e w' ⟨rfl, hE⟩
  have hS := hS.below_step hE.below
  refine ⟨_, rfl, ?_⟩
  refine WL.nil ?_
  refine ⟨hS, ?_⟩
  refine WD.take 4 rfl (by kernel_rfl) (fun _ _ _ h => fin_panic h) hS (Val.not rfl) ?_
  refine WD.nil (by kernel_rfl) ?_
  have h := hS
  refine W.condF (show Value.bool (!decide (_ = _)) = _ by simp) ?_
  refine W.skip ?_
  refine W.seq (W.region rfl ?_)
  refine WL.p h Val.as ?_
  refine WL.nil ?_
  refine W.ret ?_
  exact fin1 (v := .bool true) rfl rfl ⟨rfl, hS.below⟩
end Go.Proofs.Ytmiihhbgfijcmaa.K

