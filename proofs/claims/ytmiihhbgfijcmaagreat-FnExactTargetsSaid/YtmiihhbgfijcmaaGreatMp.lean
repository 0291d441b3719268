/- Maps of strings, told as they lie; the library's sort over a slice of the call's own. -/
import Derived.Test.YtmiihhbgfijcmaaGreatKh
import Derived.Test.YtmiihhbgfijcmaaGreatSs
import Derived.Maps.RangeWalk
import Derived.Sort.KeysCollected
import Derived.Sort.OwnSorted
namespace Go.Proofs.YtmiihhbgfijcmaaGreat.K
open Go Go.RowKit
open Go.ChangeMaps (setBlock heap_setBlock_same)
set_option linter.unusedVariables false
set_option linter.unusedSimpArgs false
abbrev SMap := List (ByteArray × Value)
def ent (p : (ByteArray × Value) × Nat) : MapEntry := { key := .string p.1.1, val := p.1.2, born := p.2 }
def ents (M : SMap) : Array MapEntry := ((M.zipIdx 0).map ent).toArray
def mobj (M : SMap) : Obj := .map (ents M) M.length
def mIter (b n : Nat) (seen : List Nat) : Obj := .mapIter (some b) n seen.toArray n
def updM {α : Type} : List (ByteArray × α) → ByteArray → α → List (ByteArray × α)
  | [], k, v => [(k, v)]
  | (m, x) :: r, k, v => if m = k then (k, v) :: r else (m, x) :: updM r k v
def keysM {α : Type} (M : List (ByteArray × α)) : List ByteArray := M.map (·.1)
theorem updM_none {α : Type} : ∀ (M : List (ByteArray × α)) (k : ByteArray) (v : α), (∀ p ∈ M, p.1 ≠ k) → updM M k v = M ++ [(k, v)]
  | [], k, v, _ => rfl
  | (m, x) :: r, k, v, h => by
    rw [updM, if_neg (h (m, x) (by simp)), updM_none r k v (fun p hp => h p (by simp [hp]))]; rfl
theorem updM_some {α : Type} : ∀ (M : List (ByteArray × α)) (k : ByteArray) (v x : α) (j : Nat), (keysM M).Nodup → M[j]? = some (k, x) → updM M k v = M.set j (k, v)
  | [], k, v, x, j, _, h => by simp at h
  | (m, y) :: r, k, v, x, 0, _, h => by
    simp at h
    rw [updM, if_pos h.1]; rfl
  | (m, y) :: r, k, v, x, j + 1, hn, h => by
    have h' : r[j]? = some (k, x) := by simpa using h
    have hn' : m ∉ keysM r ∧ (keysM r).Nodup := by simpa [keysM] using hn
    have hmk : m ≠ k := fun e => hn'.1 (by rw [e]; exact List.mem_map.2 ⟨(k, x), List.mem_of_getElem? h', rfl⟩)
    rw [updM, if_neg hmk, updM_some r k v x j hn'.2 h']; rfl
theorem updM_keys {α : Type} : ∀ (M : List (ByteArray × α)) (k : ByteArray) (v : α), (keysM (updM M k v) = keysM M ∧ k ∈ keysM M) ∨ (keysM (updM M k v) = keysM M ++ [k] ∧ k ∉ keysM M)
  | [], k, v => .inr ⟨rfl, by simp [keysM]⟩
  | (m, x) :: r, k, v => by
    by_cases h : m = k
    · subst h; exact .inl ⟨by simp [updM, keysM], by simp [keysM]⟩
    · have hk : ¬ k = m := fun e => h e.symm
      simp only [updM, if_neg h]
      rcases updM_keys r k v with ⟨h1, h2⟩ | ⟨h1, h2⟩
      · exact .inl ⟨by simp only [keysM, List.map_cons] at h1 ⊢; rw [h1], by simp only [keysM, List.map_cons, List.mem_cons] at h2 ⊢; exact .inr h2⟩
      · exact .inr ⟨by simp only [keysM, List.map_cons] at h1 ⊢; rw [h1]; rfl, by simp only [keysM, List.map_cons, List.mem_cons] at h2 ⊢; exact fun e => e.elim hk h2⟩
theorem updM_nodup {α : Type} (M : List (ByteArray × α)) (k : ByteArray) (v : α) (h : (keysM M).Nodup) : (keysM (updM M k v)).Nodup := by
  rcases updM_keys M k v with ⟨h1, h2⟩ | ⟨h1, h2⟩
  · rw [h1]; exact h
  · rw [h1]
    exact List.nodup_append.2 ⟨h, by simp, fun a ha b hb => by simp at hb; subst hb; exact fun e => h2 (e ▸ ha)⟩
theorem updM_len {α : Type} (M : List (ByteArray × α)) (k : ByteArray) (v : α) : (updM M k v).length ≤ M.length + 1 := by
  have e : ∀ N : List (ByteArray × α), N.length = (keysM N).length := fun N => by simp [keysM]
  rcases updM_keys M k v with ⟨h1, h2⟩ | ⟨h1, h2⟩
  · rw [e, h1, ← e]; omega
  · rw [e, h1, List.length_append, ← e]; simp
theorem updM_mem {α : Type} : ∀ (M : List (ByteArray × α)) (k : ByteArray) (v : α), (keysM M).Nodup → ∀ n x, (n, x) ∈ updM M k v ↔ (n = k ∧ x = v) ∨ (n ≠ k ∧ (n, x) ∈ M)
  | [], k, v, _, n, x => by simp [updM]
  | (m, y) :: r, k, v, h, n, x => by
    have hn' : m ∉ keysM r ∧ (keysM r).Nodup := by simpa [keysM] using h
    by_cases e : m = k
    · subst e
      simp only [updM, if_true, List.mem_cons, Prod.mk.injEq]
      constructor
      · rintro (h1 | h1)
        · exact .inl h1
        · refine .inr ⟨fun e => hn'.1 (e ▸ List.mem_map.2 ⟨(n, x), h1, rfl⟩), .inr h1⟩
      · rintro (h1 | ⟨h1, h2 | h2⟩)
        · exact .inl h1
        · exact absurd h2.1 h1
        · exact .inr h2
    · simp only [updM, if_neg e, List.mem_cons, Prod.mk.injEq, updM_mem r k v hn'.2 n x]
      constructor
      · rintro (h1 | h1 | h1)
        · exact .inr ⟨by rw [h1.1]; exact e, .inl h1⟩
        · exact .inl h1
        · exact .inr ⟨h1.1, .inr h1.2⟩
      · rintro (h1 | ⟨h1, h2 | h2⟩)
        · exact .inr (.inl h1)
        · exact .inl h2
        · exact .inr (.inr ⟨h1, h2⟩)
theorem ents_get {M : SMap} {j : Nat} {e : MapEntry} (h : (ents M).toList[j]? = some e) : ∃ p, M[j]? = some p ∧ e = ent (p, j) := by
  simp only [ents, List.getElem?_map, List.getElem?_zipIdx, Option.map_eq_some_iff] at h
  obtain ⟨_, ⟨p, hp, rfl⟩, rfl⟩ := h
  exact ⟨p, hp, by simp⟩
theorem ents_at {M : SMap} {j : Nat} {p : ByteArray × Value} (h : M[j]? = some p) : (ents M).toList[j]? = some (ent (p, j)) := by
  simp [ents, List.getElem?_zipIdx, h]
theorem ents_size (M : SMap) : (ents M).size = M.length := by simp [ents]
theorem ents_push (M : SMap) (p : ByteArray × Value) : ents (M ++ [p]) = (ents M).push (ent (p, M.length)) := by
  apply Array.ext'
  simp [ents, List.zipIdx_append]
theorem ents_set (M : SMap) (j : Nat) (k : ByteArray) (v : Value) (hj : j < M.length) : ents (M.set j (k, v)) = (ents M).modify j (fun e => { e with key := .string k, val := v }) := by
  apply Array.ext
  · simp [ents]
  · intro i h1 h2
    have hi : i < M.length := by simpa [ents] using h1
    simp only [ents, List.getElem_toArray, List.getElem_map, List.getElem_zipIdx, Array.getElem_modify]
    by_cases e : j = i
    · subst e; simp [ent]
    · simp [e, ent]
section
variable {P : Program} {w w0 : World} {F0 F : Fz} {L : List Ch} {R : Regs} {d : Option Nat} {ty : TypeId} {pos : String} {af : Array Edge} {g : Option (Nat × Bool)}
variable {n : Nat} {ops : Array Oper} {Q : Post} {rest : List Oper}
/-- Keys that the model reads. -/
def KeyB (M : SMap) : Prop := ∀ p ∈ M, p.1.size ≤ 9223372036854775807
theorem keyR {kt : TypeId} (hk : P.underlying kt = some .string) {k : ByteArray} (hs : k.size ≤ 9223372036854775807) : keyOf P kt (.string k) = some (.string k.data.toList) := WideMaps.keyOf_string_mk hk (by simpa [maxLen] using hs)
theorem findM {kt : TypeId} (hk : P.underlying kt = some .string) (M : SMap) (hM : KeyB M) (k : ByteArray) (hs : k.size ≤ 9223372036854775807) (w : World) :
    ((Instr.findKey kt (.string k) (ents M).toList).run P w = .ok none w ∧ ∀ p ∈ M, p.1 ≠ k) ∨ ∃ j x, (Instr.findKey kt (.string k) (ents M).toList).run P w = .ok (some (j, x)) w ∧ M[j]? = some (k, x) := by
  have K := Maps.string_keyed hk
  rcases K.find w (keyR hk hs) (ents M).toList (fun e he => by
    obtain ⟨j, hj⟩ := List.mem_iff_getElem?.1 he
    obtain ⟨p, hp, rfl⟩ := ents_get hj
    exact ⟨_, keyR hk (hM p (List.mem_of_getElem? hp))⟩) with ⟨h1, h2⟩ | ⟨j, e, h1, h2, h3⟩
  · refine .inl ⟨h1, fun p hp => ?_⟩
    obtain ⟨j, hj⟩ := List.mem_iff_getElem?.1 hp
    have := h2 _ (List.mem_of_getElem? (ents_at hj))
    intro e
    exact this (by simp [ent, e])
  · obtain ⟨p, hp, rfl⟩ := ents_get h2
    have e : p.1 = k := by simpa [ent] using h3
    exact .inr ⟨j, p.2, h1, by rw [hp, ← e]⟩
theorem run_mapUp {T kt et b : Nat} (ht : P.underlying T = some (.map kt et)) (hk : P.underlying kt = some .string) (M : SMap) (hM : KeyB M) (hn : (keysM M).Nodup) (k : ByteArray) (hs : k.size ≤ 9223372036854775807) (v : Value) (hb : w.heap[b]? = some (mobj M)) :
    (Instr.mapUpdate T (.map (some b)) (.string k) v).run P w = .ok () (setBlock w b (mobj (updM M k v))) := by
  have K := Maps.string_keyed hk
  have hc := K.check w false (keyR hk hs)
  have hst := K.stays w (keyR hk hs)
  have hso : ∀ o', (setObj b o').run P w = .ok () (setBlock w b o') := fun o' => by
    simp only [mobj] at hb
    simp [setObj, Sem.run, hb, setBlock]
  have hb' : w.heap[b]? = some (.map (ents M) M.length) := hb
  rcases findM hk M hM k hs w with ⟨h1, h2⟩ | ⟨j, x, h1, h2⟩
  · rw [updM_none M k v h2]
    have e : mobj (M ++ [(k, v)]) = .map ((ents M).push { key := .string k, val := v, born := M.length }) (M.length + 1) := by
      rw [mobj, ents_push]; simp [ent]
    rw [e]
    simp only [Instr.mapUpdate, Sem.run_bind, run_underlying ht, Result.andThen_ok, getObj, Sem.run, hb', Result.andThen, hc, h1]
    exact hso _
  · rw [updM_some M k v x j hn h2]
    have hj := (List.getElem?_eq_some_iff.1 h2).1
    have e : mobj (M.set j (k, v)) = .map ((ents M).modify j (fun e => { e with key := .string k, val := v })) M.length := by
      rw [mobj, ents_set M j k v hj]; simp
    have hkey : ((((ents M)[j]?).map (·.key)).getD (.string k)) = .string k := by
      have := ents_at h2
      rw [Array.getElem?_toList] at this
      rw [this]; rfl
    rw [e]
    simp only [Instr.mapUpdate, Sem.run_bind, run_underlying ht, Result.andThen_ok, getObj, Sem.run, hb', Result.andThen, hc, h1, hkey, hst]
    exact hso _
theorem WL.makeMap {T : Nat} (h : Hp w0 F0 F L w) (k : ∀ b w', Hp w0 F0 F (L ++ [.obj b (mobj [])]) w' → WL P n ops Q rest (updO R d (.map (some b))) w') (hw : wantB ops R g = true := by rfl) : WL P n ops Q (⟨d, .makeMap T none, ty, pos, af, g⟩ :: rest) R w := by
  refine WL.val (v := .map (some w.heap.size)) (w' := w.alloc (.map #[] 0)) hw ?_ (k _ _ (h.push (.obj w.heap.size (mobj [])) rfl rfl rfl (by simp) (fun k hk => Below.heap_alloc _ _ _ hk) (heap_alloc_new w _) (fun b hb => by simp only [Ch.blk, Option.some.injEq] at hb; omega)))
  simp only [execOp, Option.map_none, Sem.run_bind, run_makeMap, Result.andThen_ok, Sem.run_pure]
theorem heap_put {b : Nat} {o o' : Obj} (hb : w.heap[b]? = some o) : (setBlock w b o').heap[b]? = some o' ∧ ∀ k, k ≠ b → (setBlock w b o').heap[k]? = w.heap[k]? := MapKept.heap_set hb
theorem Hp.setObj (h : Hp w0 F0 F L w) (i : Nat) {b : Nat} {o : Obj} (o' : Obj) (hi : L[i]? = some (.obj b o)) : Hp w0 F0 F (L.set i (.obj b o')) (setBlock w b o') :=
  h.change i _ hi rfl rfl rfl (by simp [setBlock]) (fun k hk hne => (heap_put (h.holds i _ hi)).2 k (fun e => hne (by rw [e]; rfl))) (heap_put (h.holds i _ hi)).1 (fun b' hb' => .inl hb')
theorem WL.mapUp (i : Nat) {T kt et b : Nat} {m x y : Operand} {M : SMap} {k : ByteArray} {v : Value} (h : Hp w0 F0 F L w) (hi : L[i]? = some (.obj b (mobj M))) (ht : P.underlying T = some (.map kt et)) (hk : P.underlying kt = some .string) (hM : KeyB M) (hn : (keysM M).Nodup) (hm : ev R m = .map (some b)) (hx : ev R x = .string k) (hy : ev R y = v) (hs : k.size ≤ 9223372036854775807)
    (kk : ∀ w', Hp w0 F0 F (L.set i (.obj b (mobj (updM M k v)))) w' → WL P n ops Q rest (updO R d undef) w') (hw : wantB ops R g = true := by rfl) : WL P n ops Q (⟨d, .mapUpdate T m x y, ty, pos, af, g⟩ :: rest) R w := by
  refine WL.unit (w' := setBlock w b (mobj (updM M k v))) hw ?_ (kk _ (h.setObj i _ hi))
  simp only [execOp, hm, hx, hy, Sem.run_bind, run_mapUp ht hk M hM hn k hs v (h.holds i _ hi), Result.andThen_ok, Sem.run_pure]
theorem Val.lookup {T kt et b j : Nat} {m x : Operand} {M : SMap} {k : ByteArray} {v : Value} (hg : ∀ w, Hp w0 F0 F L w → w.heap[b]? = some (mobj M)) (ht : P.underlying T = some (.map kt et)) (hk : P.underlying kt = some .string) (hM : KeyB M) (hn : (keysM M).Nodup) (hm : ev R m = .map (some b)) (hx : ev R x = .string k) (hj : M[j]? = some (k, v)) :
    Val P (Hp w0 F0 F L) R ⟨d, .lookup T m x false, ty, pos, af, g⟩ v := fun w h => by
  have hs := hM _ (List.mem_of_getElem? hj)
  have K := Maps.string_keyed hk
  have hc := K.check w (ents M).isEmpty (keyR hk hs)
  have hb' : w.heap[b]? = some (.map (ents M) M.length) := hg w h
  rcases findM hk M hM k hs w with ⟨h1, h2⟩ | ⟨j', x', h1, h2⟩
  · exact absurd rfl (h2 _ (List.mem_of_getElem? hj))
  · have e : x' = v := by
      have hu := updM_some M k v x' j' hn h2
      rw [updM_some M k v v j hn hj] at hu
      obtain ⟨l1, e1⟩ := List.getElem?_eq_some_iff.1 h2
      have := congrArg (fun l => l[j']?) hu
      rw [List.getElem?_set_self l1] at this
      by_cases hjj : j = j'
      · subst hjj; rw [hj] at h2; cases h2; rfl
      · rw [List.getElem?_set_ne hjj, h2] at this; simpa using this
    subst e
    have hc' : (Instr.checkKey (ents M).isEmpty 10000 kt (.string k)).run P w = .ok () w := hc
    simp [execOp, hm, hx, Instr.lookup, run_underlying ht, getObj, Sem.run, hb', Result.andThen, hc', h1]
theorem WL.range {T kt et b : Nat} {x : Operand} {M : SMap} (h : Hp w0 F0 F L w) (hg : ∀ w, Hp w0 F0 F L w → w.heap[b]? = some (mobj M)) (ht : P.underlying T = some (.map kt et)) (hx : ev R x = .map (some b))
    (k : ∀ r w', Hp w0 F0 F (L ++ [.obj r (mIter b M.length [])]) w' → WL P n ops Q rest (updO R d (.pointer (some ⟨r, 0, none⟩))) w') (hw : wantB ops R g = true := by rfl) : WL P n ops Q (⟨d, .range T x, ty, pos, af, g⟩ :: rest) R w := by
  refine WL.val (v := .pointer (some ⟨w.heap.size, 0, none⟩)) (w' := w.alloc (mIter b M.length [])) hw ?_ (k _ _ (h.push (.obj w.heap.size (mIter b M.length [])) rfl rfl rfl (by simp) (fun k hk => Below.heap_alloc _ _ _ hk) (heap_alloc_new w _) (fun b hb => by simp only [Ch.blk, Option.some.injEq] at hb; omega)))
  have := run_range_map (P := P) w T kt et b (ents M) M.length ht (hg w h)
  simp only [execOp, hx, Sem.run_bind, this, Result.andThen_ok, Sem.run_pure]
  rfl
theorem born_lt {M : SMap} {x : MapEntry} (hx : x ∈ (ents M).toList) : ∃ p, M[x.born]? = some p ∧ x = ent (p, x.born) := by
  obtain ⟨j, hj⟩ := List.mem_iff_getElem?.1 hx
  obtain ⟨p, hp, rfl⟩ := ents_get hj
  exact ⟨p, hp, rfl⟩
theorem WL.next (j : Nat) {b r : Nat} {x : Operand} {M : SMap} {seen : List Nat} (h : Hp w0 F0 F L w) (hg : ∀ w, Hp w0 F0 F L w → w.heap[b]? = some (mobj M)) (hj : L[j]? = some (.obj r (mIter b M.length seen))) (hx : ev R x = .pointer (some ⟨r, 0, none⟩))
    (k0 : (∀ q, q < M.length → q ∈ seen) → WL P n ops Q rest (updO R d (.tuple #[.bool false])) w)
    (k1 : ∀ q w' p, M[q]? = some p → q ∉ seen → Hp w0 F0 F (L.set j (.obj r (mIter b M.length (seen ++ [q])))) w' → WL P n ops Q rest (updO R d (.tuple #[.bool true, .string p.1, p.2])) w') (hw : wantB ops R g = true := by rfl) : WL P n ops Q (⟨d, .next x false, ty, pos, af, g⟩ :: rest) R w := by
  rcases run_next_at (P := P) w ty r b M.length M.length seen.toArray (ents M) M.length (h.holds j _ hj) (hg w h) (fun x hx => by
    obtain ⟨p, hp, _⟩ := born_lt hx
    exact (List.getElem?_eq_some_iff.1 hp).1) (Nat.le_refl _) with ⟨h0, hrun⟩ | ⟨e, he, w1, hal, hrun⟩
  · refine WL.val (v := .tuple #[.bool false]) (w' := w) hw ?_ (k0 fun q hq => ?_)
    · simp only [execOp, hx, Sem.run_bind, hrun, Result.andThen_ok, Sem.run_pure]
    · have hp : M[q]? = some M[q] := List.getElem?_eq_getElem hq
      have hm := List.mem_of_getElem? (ents_at hp)
      have hs := all_seen (ents M) seen.toArray h0 _ hm
      simpa [ent] using hs
  · obtain ⟨hem, hes⟩ := mem_left he
    obtain ⟨p, hp, hpe⟩ := born_lt hem
    have hns : e.born ∉ seen := by
      intro hc
      rw [show (seen.toArray.contains e.born) = true by simpa using hc] at hes
      cases hes
    have hkey : e.key = .string p.1 := by rw [hpe]; rfl
    have hval : e.val = p.2 := by rw [hpe]; rfl
    refine WL.val (v := .tuple #[.bool true, .string p.1, p.2]) (w' := setBlock w1 r (.mapIter (some b) M.length (seen.toArray.push e.born) M.length)) hw ?_ (k1 e.born _ p hp hns ?_)
    · simp only [execOp, hx, Sem.run_bind, hrun, Result.andThen_ok, Sem.run_pure, hkey, hval]
    · have e1 : (.mapIter (some b) M.length (seen.toArray.push e.born) M.length : Obj) = mIter b M.length (seen ++ [e.born]) := by
        simp [mIter]
      rw [e1]
      rcases hal with rfl | rfl
      · exact h.setObj j _ hj
      · exact (h.drewN 1).setObj j _ hj
theorem Val.entry (j : Nat) {b r q : Nat} {x : Operand} {M : SMap} {seen : List Nat} {p : ByteArray × Value} (hg : ∀ w, Hp w0 F0 F L w → w.heap[b]? = some (mobj M)) (hj : L[j]? = some (.obj r (mIter b M.length (seen ++ [q])))) (hx : ev R x = .pointer (some ⟨r, 0, none⟩)) (hp : M[q]? = some p) :
    Val P (Hp w0 F0 F L) R ⟨d, .entry x, ty, pos, af, g⟩ (.tuple #[.string p.1, p.2]) := fun w h => by
  have hr : w.heap[r]? = some (.mapIter (some b) M.length (seen.toArray.push (ent (p, q)).born) M.length) := by
    have := h.holds j _ hj
    simpa [Ch.holds, mIter, ent] using this
  have hnd : ((ents M).toList.map (·.born)).Nodup := by
    have e : (ents M).toList.map (·.born) = List.range' 0 M.length := by
      simp only [ents, List.map_map]
      rw [← List.zipIdx_map_snd 0 M]
      rfl
    rw [e]
    exact List.nodup_range' ..
  have := run_entry_at (P := P) w r b M.length seen.toArray (ents M) M.length (ent (p, q)) hr (hg w h) (List.mem_of_getElem? (ents_at hp)) hnd
  simp only [execOp, hx, Sem.run_bind, this, Result.andThen_ok, Sem.run_pure]
  rfl
/-! ### The sort -/
def sortB (ns : List ByteArray) : List ByteArray := ((ns.map fun s => s.data.toList).mergeSort fun x y => decide (x ≤ y)).map fun l => ⟨l.toArray⟩
theorem sortB_len (ns : List ByteArray) : (sortB ns).length = ns.length := by simp [sortB]
theorem sortB_perm (ns : List ByteArray) : (sortB ns).Perm ns := by
  have h := (List.mergeSort_perm (ns.map fun s => s.data.toList) (fun x y => decide (x ≤ y))).map (fun l => (⟨l.toArray⟩ : ByteArray))
  rw [List.map_map] at h
  have e : ns.map ((fun l => (⟨l.toArray⟩ : ByteArray)) ∘ fun s => s.data.toList) = ns := by
    conv => rhs; rw [← List.map_id ns]
    apply List.map_congr_left
    intro a _
    simp
  rw [e] at h
  exact h
theorem sortB_of_perm {a b : List ByteArray} (h : a.Perm b) : sortB a = sortB b := by
  unfold sortB
  rw [mergeSort_of_perm (h.map _)]
end
theorem C106 : CF Tryz.prog 25 := ⟨_, Tryz.func25, rfl, rfl⟩
theorem sort_calls {w w0 : World} {F0 F : Fz} {L : List Ch} (h : Hp w0 F0 F L w) (i : Nat) {v : Value} {ns : List ByteArray} (hi : L[i]? = some (.own v 9 1 ns.length (ns.map Value.string))) (hsz : ns.length < 4611686018427387904) :
    Calls Tryz.prog 25 #[v] w fun e w' => e = .returned (.tuple #[]) ∧ Hp w0 F0 F (L.set i (.own v 9 1 ns.length ((sortB ns).map Value.string))) w' := by
  have hown := h.holds i _ hi
  obtain ⟨ss, hss⟩ : ∃ ss, ss = ns.map fun s => s.data.toList := ⟨_, rfl⟩
  have hl : ss.length = ns.length := by rw [hss]; simp
  have he : ss.map Go.Proofs.encStr = ns.map Value.string := by
    rw [hss, List.map_map]
    apply List.map_congr_left
    intro a _
    simp [Go.Proofs.encStr]
  have hs2 : (ss.mergeSort fun x y => decide (x ≤ y)).map Go.Proofs.encStr = (sortB ns).map Value.string := by
    rw [sortB, List.map_map, hss]
    rfl
  rcases hown.2 with ⟨rfl, h0⟩ | ⟨g, cap, cur, rfl, hg, hh, hle, hm, hcs, ht⟩
  · have : ns = [] := List.eq_nil_of_length_eq_zero h0
    subst this
    refine (Sh.Tryz.sort_Strings_none none 0 w).mono ?_
    rintro e w' ⟨rfl, rfl⟩
    refine ⟨rfl, ?_⟩
    exact h.retell i (.own (.slice none 0 0) 9 1 0 ((sortB []).map Value.string)) hi (by simpa [sortB] using h.holds i _ hi) (fun b hb => hb)
  · rw [Nat.mul_one, ← hl, ← he] at ht
    have hb := (Array.getElem?_eq_some_iff.1 hh).1
    rw [← hl]
    refine (Sh.Tryz.sort_Strings g 0 cap ss w (holds_of_block hh ht) hb (by omega)).mono ?_
    rintro e w' ⟨rfl, k, os, rfl⟩
    refine ⟨rfl, ?_⟩
    have hgr := grownBy_sorted (w := w) (g := g) (n := k) (os := os) (ss.mergeSort fun x y => decide (x ≤ y)).toArray
    have hrow := ownsRow_sorted (w := w) (base := 0) (g := g) (cap := cap) (n := k) (os := os) (ss := ss) (ts := ss.mergeSort fun x y => decide (x ≤ y)) (by simp) hg hh (by omega) hm hcs
    rw [hs2] at hrow
    exact h.change i (.own (.slice (some ⟨g, 0, none⟩) ss.length cap) 9 1 ss.length ((sortB ns).map Value.string)) hi hgr.os hgr.tape hgr.output hgr.size (fun k hk hne => hgr.block k hk (fun e => hne e.symm)) hrow (fun b hb => .inl (by simpa [Ch.blk, Value.ownBlock] using hb))
end Go.Proofs.YtmiihhbgfijcmaaGreat.K

