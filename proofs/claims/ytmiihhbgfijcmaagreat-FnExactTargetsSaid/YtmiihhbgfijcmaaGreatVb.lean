/- Small rules on slices of the call's own, for the walk of unpack. -/
import Derived.Test.YtmiihhbgfijcmaaGreatV
namespace Go.Proofs.YtmiihhbgfijcmaaGreat.K
open Go Go.RowKit
set_option linter.unusedVariables false
set_option linter.unusedSimpArgs false
section
variable {P : Program} {R : Regs} {w0 : World} {F0 F : Fz} {L : List Ch} {d : Option Nat} {ty : TypeId} {pos : String} {af : Array Edge} {g : Option (Nat × Bool)}
variable {n : Nat} {ops : Array Oper} {Q : Post} {w : World} {rest : List Oper}
theorem Hp.nilRow (h : Hp w0 F0 F L w) (T size : Nat) : Hp w0 F0 F (L ++ [.own (.slice none 0 0) T size 0 []]) w :=
  h.push _ rfl rfl rfl (Nat.le_refl _) (fun _ _ => rfl) ⟨by simp, .inl ⟨rfl, rfl⟩⟩ (fun b hb => by simp [Ch.blk, Value.ownBlock] at hb)
def headS (v : Value) (i : Nat) : Value := match v with
  | .slice A _ c => .slice A i c
  | v => v
theorem Val.slFromV {T e size bytes i nn : Nat} {z v : Value} {x y : Operand} (ht : P.underlying T = some (.slice e)) (hT : TI P e z size bytes) (hx : ev R x = v) (hy : ev R y = .int .i64 (i : Int)) (hv : ∃ A c, v = .slice A nn c ∧ nn ≤ c) (hi : i ≤ nn) :
    Val P (Hp w0 F0 F L) R ⟨d, .slice T x (some y) none none, ty, pos, af, g⟩ (fromS v i size) := by
  obtain ⟨A, c, rfl, _⟩ := hv
  exact Val.slFrom ht hT hx hy hi
theorem Val.slToV {T e size bytes i nn : Nat} {z v : Value} {x y : Operand} (ht : P.underlying T = some (.slice e)) (hT : TI P e z size bytes) (hx : ev R x = v) (hy : ev R y = .int .i64 (i : Int)) (hv : ∃ A c, v = .slice A nn c ∧ nn ≤ c) (hi : i ≤ nn) :
    Val P (Hp w0 F0 F L) R ⟨d, .slice T x none (some y) none, ty, pos, af, g⟩ (headS v i) := by
  obtain ⟨A, c, rfl, hc⟩ := hv
  exact Val.slTo ht hT hx hy (by omega)
theorem own_head {w : World} {v : Value} {T size nn i : Nat} {xs : List Value} (h : w.ownsRow 0 T size v nn xs) (hi : i ≤ nn) : w.ownsRow 0 T size (headS v i) i (xs.take (i * size)) := by
  obtain ⟨h1, h2⟩ := h
  have hle : i * size ≤ nn * size := Nat.mul_le_mul_right _ hi
  refine ⟨by rw [List.length_take, h1, Nat.min_eq_left hle], ?_⟩
  rcases h2 with ⟨rfl, rfl⟩ | ⟨g, cap, cur, rfl, hg, hh, hn, hm, hcs, ht⟩
  · obtain rfl : i = 0 := by omega
    exact .inl ⟨rfl, rfl⟩
  · refine .inr ⟨g, cap, cur, rfl, hg, hh, by omega, hm, hcs, ?_⟩
    rw [← ht, List.take_take, Nat.min_eq_left hle]
theorem head_blk {v : Value} {i : Nat} : (headS v i).ownBlock = v.ownBlock := by
  cases v <;> try rfl
  case slice A n c => cases A <;> rfl
theorem Hp.head (h : Hp w0 F0 F L w) (i : Nat) {v : Value} {T size nn k : Nat} {xs : List Value} (hi : L[i]? = some (.own v T size nn xs)) (hk : k ≤ nn) : Hp w0 F0 F (L.set i (.own (headS v k) T size k (xs.take (k * size)))) w :=
  h.retell i _ hi (own_head (h.holds i _ hi) hk) (fun b hb => by simpa [Ch.blk, head_blk] using hb)
theorem Hp.cast {L' : List Ch} (h : Hp w0 F0 F L w) (e : L = L') : Hp w0 F0 F L' w := e ▸ h
theorem Hp.own1 (h : Hp w0 F0 F L w) (i : Nat) {v : Value} {T size nn : Nat} {xs : List Value} (hi : L[i]? = some (.own v T size nn xs)) : v.oneCell' = true := by
  obtain ⟨h1, h2⟩ := h.holds i _ hi
  rcases h2 with ⟨rfl, rfl⟩ | ⟨g, cap, cur, rfl, _⟩ <;> rfl
/-- What is in a chunk stays, read through what is fixed. -/
theorem Hp.freezeRow (h : Hp w0 F0 F L w) (i : Nat) {v : Value} {T size nn : Nat} {xs : List Value} (hi : L[i]? = some (.own v T size nn xs)) : ∃ F', Sub F F' ∧ Hp w0 F0 F' (L.set i .dead) w ∧ FRow F' v nn size xs := by
  obtain ⟨F', h1, h2, h3⟩ := h.freeze i hi
  exact ⟨F', h1, h2, own_row (h.holds i _ hi) fun b hb => h3 b hb⟩
theorem Val.build1 {T i : Nat} {x : Operand} {v : Value} {cells : Array Value} (hx : ev R x = v) (h : P.built T [(i, v)] = some cells) : Val P (Hp w0 F0 F L) R ⟨d, .build T #[(i, x)], ty, pos, af, g⟩ (.agg cells) := Val.build (by subst hx; simpa using h)
theorem Val.build2 {T i j : Nat} {x y : Operand} {v u : Value} {cells : Array Value} (hx : ev R x = v) (hy : ev R y = u) (h : P.built T [(i, v), (j, u)] = some cells) : Val P (Hp w0 F0 F L) R ⟨d, .build T #[(i, x), (j, y)], ty, pos, af, g⟩ (.agg cells) := Val.build (by subst hx; subst hy; simpa using h)
theorem Val.build0 {T : Nat} {cells : Array Value} (h : P.built T [] = some cells) : Val P (Hp w0 F0 F L) R ⟨d, .build T #[], ty, pos, af, g⟩ (.agg cells) := Val.build (by simpa using h)
end

/-! ### unpack's stack in memory -/
def icell (p : It × Value) : List Value := [p.2, .int .i64 p.1.deep, .bool p.1.text]
structure Good (F : Fz) (p : It × Value) : Prop where
  rep : Rep F p.1.v p.2
  text : p.1.text = true → ∃ s, p.1.v = .text s
  deep : 0 ≤ p.1.deep ∧ p.1.deep ≤ 12
theorem Good.mono {F G : Fz} {p : It × Value} (h : Good F p) (hs : Sub F G) : Good G p := ⟨Rep.mono hs _ _ h.rep, h.text, h.deep⟩
theorem depth_bd : ∀ (k : List It) (d : Int), (∀ x ∈ k, 0 ≤ x.deep ∧ x.deep ≤ 12) → 0 ≤ d → d ≤ 13 → 0 ≤ depthOf d k ∧ depthOf d k ≤ 13
  | [], d, _, h0, h1 => ⟨h0, h1⟩
  | x :: k, d, h, h0, h1 => by
    have hx := h x (by simp)
    have := depth_bd k (if x.deep + 1 > d then x.deep + 1 else d) (fun y hy => h y (by simp [hy])) (by split <;> omega) (by split <;> omega)
    exact this
theorem depth_snoc (d : Int) (k : List It) (x : It) : depthOf d (k ++ [x]) = if x.deep + 1 > depthOf d k then x.deep + 1 else depthOf d k := by
  simp [depthOf, List.foldl_append]
theorem runU_snoc (st : List It) (es : List At) (a : At) : runU st (es ++ [a]) = (runU st es).bind fun s => stepU s a := by
  simp only [runU, List.foldlM_append]
  cases es.foldlM stepU st <;> simp
theorem runU_none {st : List It} {es : List At} {i : Nat} (h : runU st (es.take i) = none) : runU st es = none := by
  have : runU st (es.take i ++ es.drop i) = none := by
    simp only [runU, List.foldlM_append] at h ⊢
    rw [h]; rfl
  rwa [List.take_append_drop] at this
/-- One atom on which the stack stops. -/
theorem unpack_stop {es : List At} {i : Nat} {a : At} {st : List It} (hr : runU [] (es.take i) = some st) (ha : es[i]? = some a) (hs : stepU st a = none) : unpackP es = none := by
  have hlt := (List.getElem?_eq_some_iff.1 ha).1
  have : runU [] (es.take (i + 1)) = none := by
    rw [List.take_succ_eq_append_getElem hlt, runU_snoc, hr]
    rw [List.getElem?_eq_getElem hlt] at ha
    cases ha
    exact hs
  unfold unpackP
  rw [runU_none this]
  split <;> rfl
theorem run_next {es : List At} {i : Nat} {a : At} {st st' : List It} (hr : runU [] (es.take i) = some st) (ha : es[i]? = some a) (hs : stepU st a = some st') : runU [] (es.take (i + 1)) = some st' := by
  have hlt := (List.getElem?_eq_some_iff.1 ha).1
  rw [List.take_succ_eq_append_getElem hlt, runU_snoc, hr]
  rw [List.getElem?_eq_getElem hlt] at ha
  cases ha
  exact hs
end Go.Proofs.YtmiihhbgfijcmaaGreat.K

