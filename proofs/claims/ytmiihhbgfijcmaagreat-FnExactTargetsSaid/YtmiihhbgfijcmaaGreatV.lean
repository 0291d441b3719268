/- The program's inner values as trees; how they lie in memory; what unpack computes. -/
import Derived.Test.YtmiihhbgfijcmaaGreatKd
namespace Go.Proofs.YtmiihhbgfijcmaaGreat.K
open Go Go.RowKit
set_option linter.unusedVariables false

/-! ### Atoms -/
structure At where
  k : Int
  n : Int
  t : ByteArray
  c : Int
instance : DecidableEq At := fun a b => if h : a.k = b.k ∧ a.n = b.n ∧ a.t = b.t ∧ a.c = b.c then isTrue (by cases a; cases b; simp_all) else isFalse (by rintro rfl; exact h ⟨rfl, rfl, rfl, rfl⟩)
def At.cells (a : At) : List Value := [.int .i64 a.k, .int .i64 a.n, .string a.t, .int .i64 a.c]
def rowA (es : List At) : List Value := es.flatMap At.cells
theorem At.cells_len (a : At) : a.cells.length = 4 := rfl
/-- A cell of a row of elements of one size. -/
theorem flat_get {α : Type} {sz : Nat} (f : α → List Value) (hf : ∀ a, (f a).length = sz) : ∀ (es : List α) (i j : Nat) (e : α) (u : Value), es[i]? = some e → (f e)[j]? = some u → (es.flatMap f)[i * sz + j]? = some u
  | [], i, j, e, u, h, _ => by simp at h
  | x :: es, 0, j, e, u, h, hu => by
    simp at h; subst h
    rw [List.flatMap_cons, Nat.zero_mul, Nat.zero_add, List.getElem?_append_left (List.getElem?_eq_some_iff.1 hu).1]; exact hu
  | x :: es, i + 1, j, e, u, h, hu => by
    rw [List.flatMap_cons, List.getElem?_append_right (by rw [hf, Nat.add_mul]; omega), hf]
    have := flat_get f hf es i j e u (by simpa using h) hu
    rwa [show (i + 1) * sz + j - sz = i * sz + j by rw [Nat.add_mul]; omega]
theorem flat_len {α : Type} {sz : Nat} (f : α → List Value) (hf : ∀ a, (f a).length = sz) : ∀ (es : List α), (es.flatMap f).length = es.length * sz
  | [] => by simp
  | x :: es => by simp only [List.flatMap_cons, List.length_append, hf, flat_len f hf es, List.length_cons, Nat.add_mul]; omega
theorem flat_take {α : Type} {sz : Nat} (f : α → List Value) (hf : ∀ a, (f a).length = sz) : ∀ (es : List α) (i : Nat), (es.flatMap f).take (i * sz) = (es.take i).flatMap f
  | [], i => by simp
  | x :: es, 0 => by simp
  | x :: es, i + 1 => by
    rw [List.flatMap_cons, List.take_succ_cons, List.flatMap_cons, List.take_append, hf, show (i + 1) * sz - sz = i * sz by rw [Nat.add_mul]; omega, flat_take f hf es i]
    rw [List.take_of_length_le (by rw [hf, Nat.add_mul]; omega)]
theorem flat_drop {α : Type} {sz : Nat} (f : α → List Value) (hf : ∀ a, (f a).length = sz) : ∀ (es : List α) (i : Nat), (es.flatMap f).drop (i * sz) = (es.drop i).flatMap f
  | [], i => by simp
  | x :: es, 0 => by simp
  | x :: es, i + 1 => by
    rw [List.flatMap_cons, List.drop_succ_cons, List.drop_append, hf, show (i + 1) * sz - sz = i * sz by rw [Nat.add_mul]; omega, flat_drop f hf es i]
    rw [List.drop_eq_nil_of_le (by rw [hf, Nat.add_mul]; omega), List.nil_append]

/-! ### Trees -/
inductive V where
  | none
  | bool (b : Bool)
  | int (n : Int)
  | text (s : ByteArray)
  | list (l : List V)
  | record (ns : List ByteArray) (vs : List V)

mutual
def Rep (F : Fz) : V → Value → Prop
  | .none, v => v = .nilIface
  | .bool b, v => v = .iface 4 (.bool b)
  | .int n, v => v = .iface 2 (.int .i64 n)
  | .text s, v => v = .iface 9 (.string s)
  | .list l, v => ∃ u us, v = .iface 90 u ∧ FRow F u l.length 1 us ∧ Reps F l us
  | .record ns vs, v => ∃ a b us, v = .iface 92 (.agg #[a, b]) ∧ ns.length = vs.length ∧ FRow F a ns.length 1 (ns.map .string) ∧ FRow F b vs.length 1 us ∧ Reps F vs us
def Reps (F : Fz) : List V → List Value → Prop
  | [], us => us = []
  | x :: l, us => ∃ u r, us = u :: r ∧ Rep F x u ∧ Reps F l r
end
mutual
theorem Rep.mono {F G : Fz} (hs : Sub F G) : ∀ (x : V) (v : Value), Rep F x v → Rep G x v
  | .none, _, h => h
  | .bool _, _, h => h
  | .int _, _, h => h
  | .text _, _, h => h
  | .list l, v, h => by
    simp only [Rep] at h ⊢
    obtain ⟨u, us, e, h1, h2⟩ := h
    exact ⟨u, us, e, h1.mono hs, Reps.mono hs l us h2⟩
  | .record ns vs, v, h => by
    simp only [Rep] at h ⊢
    obtain ⟨a, b, us, e, h0, h1, h2, h3⟩ := h
    exact ⟨a, b, us, e, h0, h1.mono hs, h2.mono hs, Reps.mono hs vs us h3⟩
theorem Reps.mono {F G : Fz} (hs : Sub F G) : ∀ (l : List V) (us : List Value), Reps F l us → Reps G l us
  | [], _, h => h
  | x :: l, us, h => by
    simp only [Reps] at h ⊢
    obtain ⟨u, r, e, h1, h2⟩ := h
    exact ⟨u, r, e, Rep.mono hs x u h1, Reps.mono hs l r h2⟩
end
theorem Reps.len {F : Fz} : ∀ {l : List V} {us : List Value}, Reps F l us → us.length = l.length
  | [], us, h => by simp only [Reps] at h; simp [h]
  | x :: l, us, h => by simp only [Reps] at h; obtain ⟨u, r, rfl, _, h2⟩ := h; simp [Reps.len h2]
theorem Reps.get {F : Fz} : ∀ {l : List V} {us : List Value}, Reps F l us → ∀ {i : Nat} {x : V}, l[i]? = some x → ∃ u, us[i]? = some u ∧ Rep F x u
  | [], us, h, i, x, hx => by simp at hx
  | y :: l, us, h, i, x, hx => by
    simp only [Reps] at h; obtain ⟨u, r, rfl, h1, h2⟩ := h
    cases i with
    | zero => simp at hx; subst hx; exact ⟨u, rfl, h1⟩
    | succ i => simpa using Reps.get h2 (i := i) (by simpa using hx)
theorem Reps.snoc {F : Fz} : ∀ {l : List V} {us : List Value}, Reps F l us → ∀ {x : V} {u : Value}, Rep F x u → Reps F (l ++ [x]) (us ++ [u])
  | [], us, h, x, u, hx => by simp only [Reps] at h; subst h; simp only [List.nil_append, Reps]; exact ⟨u, [], rfl, hx, rfl⟩
  | y :: l, us, h, x, u, hx => by
    simp only [Reps] at h; obtain ⟨v, r, rfl, h1, h2⟩ := h
    simp only [List.cons_append, Reps]; exact ⟨v, r ++ [u], rfl, h1, Reps.snoc h2 hx⟩

/-- Every value that stands for a tree fills one cell. -/
theorem Rep.one {F : Fz} {x : V} {u : Value} (h : Rep F x u) : u.oneCell' = true := by
  cases x <;> simp only [Rep] at h
  · subst h; rfl
  · subst h; rfl
  · subst h; rfl
  · subst h; rfl
  · obtain ⟨_, _, rfl, _⟩ := h; rfl
  · obtain ⟨_, _, _, rfl, _⟩ := h; rfl

/-! ### What unpack computes -/
structure It where
  v : V
  deep : Int
  text : Bool
def depthOf (d : Int) (k : List It) : Int := k.foldl (fun d x => if x.deep + 1 > d then x.deep + 1 else d) d
def leT (a b : ByteArray) : Bool := Op.bytesLess a.toList b.toList || a.toList == b.toList
def recGo : List It → List ByteArray → List V → Option (List ByteArray × List V)
  | x :: y :: r, ns, vs => if x.text = false then none else match x.v with
    | .text n => if ns ≠ [] ∧ leT n (ns.getLastD ⟨#[]⟩) = true then none else recGo r (ns ++ [n]) (vs ++ [y.v])
    | _ => none
  | _, ns, vs => some (ns, vs)
def valOf (a : At) (k : List It) : Option V :=
  if a.k = 1 then some .none
  else if a.k = 2 then (if a.n ≠ 0 ∧ a.n ≠ 1 then none else some (.bool (decide (a.n = 1))))
  else if a.k = 3 then some (.int a.n)
  else if a.k = 4 then (if a.t.size > 1000 then none else some (.text a.t))
  else if a.k = 5 then (if a.c > 200 then none else some (.list (k.map It.v)))
  else if a.k = 6 then (if a.c.tmod 2 ≠ 0 ∨ a.c.tdiv 2 > 200 then none else (recGo k [] []).map fun p => .record p.1 p.2)
  else none
def want (a : At) : At := ⟨a.k, if a.k = 2 ∨ a.k = 3 then a.n else 0, if a.k = 4 then a.t else ⟨#[]⟩, if a.k = 5 ∨ a.k = 6 then a.c else 0⟩
def stepU (st : List It) (a : At) : Option (List It) :=
  if a.c < 0 ∨ a.c > st.length then none
  else (valOf a (st.drop (st.length - a.c.toNat))).bind fun x =>
    if want a ≠ a ∨ depthOf 0 (st.drop (st.length - a.c.toNat)) > 12 then none
      else some (st.take (st.length - a.c.toNat) ++ [⟨x, depthOf 0 (st.drop (st.length - a.c.toNat)), decide (a.k = 4)⟩])
def runU (st : List It) (es : List At) : Option (List It) := es.foldlM stepU st
def unpackP (es : List At) : Option V :=
  if es.length < 1 ∨ es.length > 1000 then none
  else match runU [] es with
    | some [x] => some x.v
    | _ => none
end Go.Proofs.YtmiihhbgfijcmaaGreat.K

