/- Targets: chunks in another order, taken over many at once; small rules. -/
import Derived.Test.YtmiihhbgfijcmaaGreatZm
namespace Go.Proofs.YtmiihhbgfijcmaaGreat.K
open Go Go.RowKit
set_option linter.unusedVariables false
set_option linter.unusedSimpArgs false
set_option maxRecDepth 20000
section
variable {w0 w w' : World} {F0 F F1 : Fz} {L L' : List Ch}
/-- A callee's chunks are taken over. -/
theorem Hp.takeL (h : Hp w0 F0 F L w) (hp : Hp w F1 F1 L' w') : Hp w0 F0 F (L ++ L') w' := by
  have h1 := h.below_step hp.below
  have split : ∀ (i : Nat) c, (L ++ L')[i]? = some c → L[i]? = some c ∨ (L.length ≤ i ∧ L'[i - L.length]? = some c) := fun i c hc => by
    rw [List.getElem?_append] at hc
    split at hc
    · exact .inl hc
    · exact .inr ⟨by omega, hc⟩
  have hlt : ∀ (i : Nat) c b, L[i]? = some c → c.blk = some b → b < w.heap.size := fun i c b hc hb => Ch.lt (h.holds i c hc) hb
  exact {
    below := h1.below
    ext := h1.ext
    new := h1.new
    sub := h1.sub
    holds := fun i c hc => (split i c hc).elim (h1.holds i c) (fun hc => hp.holds _ c hc.2)
    fresh := fun i c b hc hb => by
      rcases split i c hc with hc | ⟨_, hc⟩
      · exact h1.fresh i c b hc hb
      · have := (hp.fresh _ c b hc hb).1
        exact ⟨by have := h.below.size; omega, h.none_ge this⟩
    disj := fun i j c e b hij hc he hcb heb => by
      rcases split i c hc with hc | ⟨hi, hc⟩ <;> rcases split j e he with he | ⟨hj, he⟩
      · exact h1.disj i j c e b hij hc he hcb heb
      · have := hlt i c b hc hcb; have := (hp.fresh _ e b he heb).1; omega
      · have := hlt j e b he heb; have := (hp.fresh _ c b hc hcb).1; omega
      · exact hp.disj _ _ c e b (by omega) hc he hcb heb }
theorem Hp.swapAt {A : List Ch} {c d : Ch} (h : Hp w0 F0 F (A ++ c :: d :: L) w) : Hp w0 F0 F (A ++ d :: c :: L) w := by
  refine h.reorder (fun i => if i = A.length then A.length + 1 else if i = A.length + 1 then A.length else i) (fun i j hi hj e => ?_) (fun i x hx => ?_)
  · by_cases e1 : i = A.length <;> by_cases e2 : i = A.length + 1 <;> by_cases e3 : j = A.length <;> by_cases e4 : j = A.length + 1 <;> simp [e1, e2, e3, e4] at e <;> omega
  · by_cases e1 : i = A.length
    · subst e1
      rw [if_pos rfl, List.getElem?_append_right (by omega)]
      rw [List.getElem?_append_right (by omega)] at hx
      simpa using hx
    · by_cases e2 : i = A.length + 1
      · subst e2
        rw [if_neg e1, if_pos rfl, List.getElem?_append_right (by omega)]
        rw [List.getElem?_append_right (by omega)] at hx
        simpa using hx
      · rw [if_neg e1, if_neg e2]
        by_cases e3 : i < A.length
        · rw [List.getElem?_append_left e3] at hx ⊢
          exact hx
        · rw [List.getElem?_append_right (by omega)] at hx ⊢
          obtain ⟨k, hk⟩ : ∃ k, i - A.length = k + 2 := ⟨i - A.length - 2, by omega⟩
          rw [hk] at hx ⊢
          simpa using hx
theorem Hp.permA (hp : L.Perm L') : ∀ (A : List Ch), Hp w0 F0 F (A ++ L) w → Hp w0 F0 F (A ++ L') w := by
  induction hp with
  | nil => intro A h; exact h
  | cons c hp ih =>
    intro A h
    have := ih (A ++ [c]) (by simpa using h)
    simpa using this
  | swap c d l => intro A h; exact h.swapAt
  | trans h1 h2 ih1 ih2 => intro A h; exact ih2 A (ih1 A h)
theorem Hp.perm (h : Hp w0 F0 F L w) (hp : L.Perm L') : Hp w0 F0 F L' w := Hp.permA hp [] h
theorem Hp.left {A B : List Ch} (h : Hp w0 F0 F (A ++ B) w) : Hp w0 F0 F A w := by
  have := h.keep A.length
  rwa [List.take_left] at this
theorem Hp.right {A B : List Ch} (h : Hp w0 F0 F (A ++ B) w) : Hp w0 F0 F B w := (h.perm List.perm_append_comm).left
theorem Hp.put4 {c0 c1 c2 c3 c4 c5 c6 : Ch} (h : Hp w0 F0 F [c0, c1, c2, c3, c4, c5, c6] w) : Hp w0 F0 F [c0, c1, c2, c3, c6, c5] w :=
  (h.perm (L' := [c0, c1, c2, c3, c6, c5, c4]) (by
    refine .cons _ (.cons _ (.cons _ (.cons _ ?_)))
    exact (List.Perm.swap c5 c4 [c6]).trans ((List.Perm.cons c5 (List.Perm.swap c6 c4 [])).trans (List.Perm.swap c6 c5 [c4])))).keep 6
theorem Hp.put5 {c0 c1 c2 c3 c4 c5 c6 : Ch} (h : Hp w0 F0 F [c0, c1, c2, c3, c4, c5, c6] w) : Hp w0 F0 F [c0, c1, c2, c3, c4, c6] w :=
  (h.perm (L' := [c0, c1, c2, c3, c4, c6, c5]) (by
    refine .cons _ (.cons _ (.cons _ (.cons _ (.cons _ ?_))))
    exact List.Perm.swap c6 c5 [])).keep 6
end
section
variable {w0 : World} {F0 F : Fz} {L : List Ch} {R : Regs} {d : Option Nat} {ty : Nat} {pos : String} {af : Array Edge} {g : Option (Nat × Bool)}
def hasB (ks : List ByteArray) (k : ByteArray) : Bool := Lib.containsS ks k
theorem hasB_iff {ks : List ByteArray} {k : ByteArray} : hasB ks k = true ↔ k ∈ ks := Lib.containsS_iff ..
theorem hasB_yes {ks : List ByteArray} {k : ByteArray} (h : k ∈ ks) : hasB ks k = true := hasB_iff.2 h
theorem hasB_no {ks : List ByteArray} {k : ByteArray} (h : k ∉ ks) : hasB ks k = false := by
  cases e : hasB ks k with
  | false => rfl
  | true => exact absurd (hasB_iff.1 e) h
def tx4 (t : T) : ByteArray := if t.atom.k = 4 then t.atom.t else ⟨#[]⟩
theorem Val.ta9 {F' : Fz} {xT : TypeId} {x : Operand} {t : T} {a : Value} (ha : Arg F' t a) (hx : K.ev R x = a) : Val Tryz.prog (Hp w0 F0 F L) R ⟨d, .typeAssert x xT 9 true, ty, pos, af, g⟩ (.tuple #[.string (tx4 t), .bool (decide (t.atom.k = 4))]) := by
  by_cases k4 : t.atom.k = 4
  · rw [tx4, if_pos k4, decide_eq_true k4]
    exact Val.taY N9 (hx.trans (ha.y9 k4))
  · rw [tx4, if_neg k4, decide_eq_false k4]
    exact Val.taF N9 T9 hx (ha.n9 k4)
/-- A key looked up in a map of truths. -/
theorem Val.lookupB {b : Nat} {m x : Operand} {ks : List ByteArray} {k : ByteArray} (hg : ∀ w, Hp w0 F0 F L w → w.heap[b]? = some (mobj (boolL ks))) (hz : ∀ x ∈ ks, x.size ≤ 9223372036854775807) (hn : ks.Nodup) (hk : k.size ≤ 9223372036854775807) (hm : K.ev R m = .map (some b)) (hx : K.ev R x = .string k) :
    Val Tryz.prog (Hp w0 F0 F L) R ⟨d, .lookup 56 m x false, ty, pos, af, g⟩ (.bool (hasB ks k)) := by
  have hK : KeyB (boolL ks) := fun p hp => hz _ (bool_mem hp).1
  have hN : (keysM (boolL ks)).Nodup := by rw [keys_bool]; exact hn
  by_cases hin : k ∈ ks
  · rw [hasB_yes hin]
    obtain ⟨i, hi⟩ : ∃ i : Nat, (boolL ks)[i]? = some (k, Value.bool true) := List.mem_iff_getElem?.1 (List.mem_map.2 ⟨k, hin, rfl⟩)
    exact Val.lookup hg Tryz.underlying56 Tryz.underlying9 hK hN hm hx hi
  · rw [hasB_no hin]
    exact Val.lookupN hg Tryz.underlying56 Tryz.underlying9 T4 hK hm hx hk (fun p hp e => hin (e ▸ (bool_mem hp).1))
end
theorem updM_bool {ks : List ByteArray} {k : ByteArray} (h : k ∉ ks) : updM (boolL ks) k (.bool true) = boolL (ks ++ [k]) := by
  rw [updM_none _ _ _ (fun p hp (e : p.1 = k) => h (by rw [← e]; exact (bool_mem hp).1))]
  simp [boolL]
theorem boolL_B {ks : List ByteArray} (hz : ∀ x ∈ ks, x.size ≤ 9223372036854775807) : KeyB (boolL ks) := fun p hp => hz _ (bool_mem hp).1
theorem boolL_N {ks : List ByteArray} (hn : ks.Nodup) : (keysM (boolL ks)).Nodup := by rw [keys_bool]; exact hn
theorem C44q : CF Tryz.prog 44 := ⟨_, Tryz.func44, rfl, rfl⟩
theorem contains_calls (F : Fz) (w0 : World) (hF : Sub F (hv w0)) (x : Value) (ns : List ByteArray) (hr : FRow F x ns.length 1 (rowS ns)) (s : ByteArray) : Calls Tryz.prog 44 #[x, .string s] w0 fun e w' => e = .returned (.bool (hasB ns s)) ∧ Ext F w0 F w' := by
  have h0 : Ext F w0 F w0 := (Hp.start hF).toExt
  by_cases hn : ns.length = 0
  · obtain ⟨A, c, rfl, _⟩ := hr.val
    obtain rfl := List.eq_nil_of_length_eq_zero hn
    refine (Sh.Tryz.slices_Contains_string_empty A c s w0).mono ?_
    rintro e w' ⟨rfl, rfl⟩
    exact ⟨rfl, h0⟩
  · obtain ⟨c, hc⟩ := hr.slice (by omega)
    have hl := hr.max
    rw [hc]
    refine (Sh.Tryz.slices_Contains_string (sblk x) (soff x) ns.length c ns s w0 (Nat.le_refl _) (by omega) (fun j hj => ?_)).mono ?_
    · have hj' : (ns.map Value.string)[j]? = some (.string (ns.getD j ByteArray.empty)) := by
        rw [List.getElem?_map, List.getD_eq_getElem?_getD, List.getElem?_eq_getElem hj]; rfl
      exact hr.cell hF hj'
    · rintro e w' ⟨rfl, rfl⟩
      rw [List.take_length]
      exact ⟨rfl, h0⟩
end Go.Proofs.YtmiihhbgfijcmaaGreat.K

