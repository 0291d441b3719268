/- FnExactValidValue: the walk of the law. -/
import Derived.Test.YtmiihhbgfijcmaaGreatPv
import Derived.Test.YtmiihhbgfijcmaaGreatU
import Derived.Test.YtmiihhbgfijcmaaGreatLv
namespace Go.Proofs.YtmiihhbgfijcmaaGreat.K
open Go Go.RowKit
set_option linter.unusedVariables false
set_option linter.unusedSimpArgs false
set_option maxRecDepth 20000
theorem C16 : CF Tryz.prog 14 := ⟨_, Tryz.func14, rfl, rfl⟩
theorem C42 : CF Tryz.prog 20 := ⟨_, Tryz.func20, rfl, rfl⟩

theorem Ext.gain {F : Fz} {w w' : World} (hF : Sub F (hv w)) (hE : Ext F w F w') {b : Nat} {o : Obj} (hb : w.heap.size ≤ b) (hc : w'.heap[b]? = some o) : ∃ F', Ext F w F' w' ∧ F' b = some o := by
  have hn : F b = none := by
    cases e : F b with
    | none => rfl
    | some o' => exact absurd (hv_lt (hF b o' e)) (by omega)
  refine ⟨fun k => if k = b then some o else F k, ⟨hE.below, fun k o' hk => ?_, fun k hk => ?_, fun k o' hk => ?_⟩, by simp⟩
  · have : k ≠ b := by rintro rfl; rw [hn] at hk; cases hk
    simp [this, hk]
  · by_cases e : k = b
    · subst e; exact .inr hb
    · simp [e] at hk; exact .inl hk
  · by_cases e : k = b
    · subst e; simp at hk; subst hk; exact hc
    · simp [e] at hk; exact hE.sub k o' hk
theorem Ext.trans {F F' F'' : Fz} {w w' w'' : World} (h : Ext F w F' w') (h' : Ext F' w' F'' w'') : Ext F w F'' w'' :=
  ⟨h.below.trans (h'.below.mono h.below.size), h.ext.trans h'.ext, fun b hb => by
    rcases h'.new b hb with e | e
    · exact h.new b e
    · exact .inr (by have := h.below.size; omega), h'.sub⟩
theorem Hp.weak {w0 w : World} {F0 F F' : Fz} {L : List Ch} (h : Hp w0 F0 F' L w) (h1 : Sub F0 F) (h2 : Sub F F') : Hp w0 F0 F L w where
  below := h.below
  ext := h1
  new := fun b hb => h.new b (by
    cases e : F b with
    | none => exact absurd e hb
    | some o => rw [h2 b o e]; simp)
  sub := h2.trans h.sub
  holds := h.holds
  fresh := fun i c b hi hb => ⟨(h.fresh i c b hi hb).1, by
    cases e : F b with
    | none => rfl
    | some o => have := h2 b o e; rw [(h.fresh i c b hi hb).2] at this; cases this⟩
  disj := h.disj
theorem box_row {F : Fz} {b T m size : Nat} {cs : List Value} (hb : F b = some (.cells cs.toArray T (0, 0))) (hl : cs.length = m * size) (hm : m ≤ 9223372036854775807) : FRow F (.slice (some ⟨b, 0, none⟩) m m) m size cs :=
  ⟨hl, hm, ⟨_, m, rfl, Nat.le_refl _⟩, .inr ⟨b, 0, m, cs.toArray, T, (0, 0), rfl, hb, fun j u hu => by rw [Nat.zero_add]; simpa using hu⟩⟩
theorem toValue_row (F : Fz) (w : World) (hF : Sub F (hv w)) (v : Value) (es : List At) (hr : FRow F v es.length 4 (rowA es)) (hl : es.length ≤ 1048576) :
    Calls Tryz.prog 42 #[.agg #[v]] w fun e w' => ∃ F' s, e = .returned (.agg #[s]) ∧ Ext F w F' w' ∧ FRow F' s es.length 4 (rowA es) := by
  refine (toValue_calls F w hF v es hr hl).mono ?_
  rintro e w' ⟨b, rfl, hE, hb, hc⟩
  obtain ⟨F', hE', hb'⟩ := hE.gain hF hb hc
  exact ⟨F', _, rfl, hE', box_row hb' (rowA_len es) (by omega)⟩

theorem specValidValue_calls (F : Fz) (w0 : World) (hF : Sub F (hv w0)) (v : Value) (es : List At) (hr : FRow F v es.length 4 (rowA es)) (hB : es.length ≤ 1048576) :
    Calls Tryz.prog 14 #[.agg #[v]] w0 fun e w' => ∃ b, e = .returned (.bool b) ∧ (b = true ↔ unpackP es ≠ none) ∧ Ext F w0 F w' := by
  refine calls 11 Tryz.func14 rfl rfl rfl ?_
  have h := Hp.start hF
  refine W.seq (W.region rfl ?_)
  refine WL.box h rfl (fun b1 w h => ?_)
  refine WL.p h Val.as ?_
  refine WL.nil ?_
  refine W.seq (W.region rfl ?_)
  refine WL.p h (Val.fa O42_0 rfl) ?_
  refine WL.p h (Val.ld 0 A40 rfl rfl rfl) ?_
  refine WL.p h (Val.len Tryz.underlying43 rfl hr.val) ?_
  refine WL.p h (Val.le rfl rfl) ?_
  refine WL.dec (fun c1 => ?_) (fun c1 => ?_)
  · refine WL.p h Val.mv ?_
    refine WL.p h (Val.ldS 0 A42 T42 rfl rfl rfl) ?_
    refine WL.call C40 (args := [.agg #[v], .int .i64 0]) rfl ((l5Ok_calls _ F w h.sub v es hr hB 0 (by decide) (by decide) (Nat.le_refl _)).mono ?_)
    rintro e w' ⟨b, rfl, hb, hE⟩
    have h := h.call hE
    refine ⟨_, rfl, ?_⟩
    refine WL.p h (Val.pick rfl) ?_
    refine WL.p h Val.as ?_
    refine WL.nil ?_
    refine W.ret ?_
    refine fin1 (v := .bool b) rfl rfl ⟨b, rfl, ?_, h.toExt⟩
    rw [hb, unpack_valid]
    exact ⟨fun h => ⟨by omega, h⟩, fun h => h.2⟩
  · refine WL.p h Val.mv ?_
    refine WL.no rfl (WL.no rfl (?_))
    refine WL.p h (Val.pick rfl) ?_
    refine WL.p h Val.as ?_
    refine WL.nil ?_
    refine W.ret ?_
    refine fin1 (v := .bool false) rfl rfl ⟨false, rfl, ?_, h.toExt⟩
    rw [unpack_valid]
    exact ⟨fun h => (by cases h), fun h => by have := h.1; omega⟩

end Go.Proofs.YtmiihhbgfijcmaaGreat.K


