/- The makers of values, their results told as chunks of their own; regions where several operations may come up. -/
import Derived.Test.YtmiihhbgfijcmaaDr
namespace Go.Proofs.Ytmiihhbgfijcmaa.K
open Go Go.RowKit
set_option linter.unusedVariables false
set_option linter.unusedSimpArgs false
set_option maxRecDepth 20000
theorem C86 : CF Try.prog 86 := ⟨_, Try.func86, rfl, rfl⟩
theorem C87 : CF Try.prog 87 := ⟨_, Try.func87, rfl, rfl⟩
theorem C88 : CF Try.prog 88 := ⟨_, Try.func88, rfl, rfl⟩
theorem C100 : CF Try.prog 100 := ⟨_, Try.func100, rfl, rfl⟩
section
variable {P : Program} {R : Regs} {n : Nat} {ops : Array Oper} {Q : Post} {w : World} {S : World → Prop} {ds : List Nat} {fuel : Nat} {l : Array Bool}
/-- Whatever operation comes up: each is walked as in a list of its own, and S is shown again. -/
theorem WD.allS (rs : List Nat) (hr : (Region.ready .any ops l == rs) = true) (hne : rs ≠ [])
    (h : ∀ i ∈ rs, ∃ o, ops[i]? = some o ∧ WL P n ops (thn (fun R w' => S w' ∧ WD P n ops Q S ds fuel (l.setIfInBounds i true) R w') Q) [o] R w) : WD P n ops Q S ds (fuel + 1) l R w := fun hd a ha => by
  have hr' : Region.ready .any ops l = rs := by simpa using hr
  refine Last.wpAnyLast_all hr' hne fun j hj => ?_
  obtain ⟨o, hi, hw⟩ := h j hj
  have h1 := hw (by simp only [dsts, List.all_cons, List.all_nil, Bool.and_true]; exact dsts_at hd hi) a ha
  have key : ∀ (K : Act → World → Prop) (Q' : Exit → Act → World → Prop), wpList P ops Q' [o] a w → (∀ a w, Q' .normal a w → K a w) → wpOp P ops Q' j K a w := fun K Q' hl hk => by
    unfold wpList at hl
    unfold wpOp
    simp only [hi]
    split
    · rename_i hw; rw [if_pos hw] at hl; exact hl.imp (Oper.wp_mono fun a w h => hk a w h) id
    · rename_i hw; rw [if_neg hw] at hl; exact hk _ _ hl
  have h2 := key (fun a' w' => (j ∉ ds → S w → S w') ∧ Last.wpAnyLast P .any ops (lift n Q) S ds fuel (l.setIfInBounds j true) a' w') _ h1 (fun a' w' ⟨R', hR, hq⟩ => ⟨fun _ _ => hq.1, hq.2 hd a' hR⟩)
  unfold wpOp at h2 ⊢
  simp only [hi] at h2 ⊢
  split
  · rename_i hw
    rw [if_pos hw] at h2
    rcases h2 with h2 | ⟨h2, a0, w0, h3⟩
    · refine .inl ?_
      unfold Oper.wp at h2 ⊢
      generalize (execOp a.eval o).run P w = r at h2 ⊢
      cases r with
      | ok x w' =>
        cases x <;> simp only [Oper.upon] at h2 ⊢ <;> try exact h2
      | halt x w' => cases x <;> simp only [Oper.upon] at h2 ⊢ <;> exact h2
    · exact .inr ⟨h2, a0, w0, h3⟩
  · rename_i hw
    rw [if_neg hw] at h2
    exact h2
end

/-! ### A value of new atoms -/
def PC (w0 : World) (l : List At) (e : Ending) (w : World) : Prop := ∃ s c, e = .returned (.agg #[s]) ∧ Below w0.heap.size w0 w ∧ Ch.holds w c ∧ (∀ b, c.blk = some b → w0.heap.size ≤ b) ∧ Held c s l.length 4 (rowA l)
section
variable {w0 w w' : World} {F0 F F1 : Fz} {L : List Ch}
theorem PC.of (h : Hp w0 F0 F L w) (i : Nat) {c : Ch} {s : Value} {l : List At} (hi : L[i]? = some c) (hh : Held c s l.length 4 (rowA l)) : PC w0 l (.returned (.agg #[s])) w := ⟨s, c, rfl, h.below, h.holds i _ hi, fun b hb => (h.fresh i c b hi hb).1, hh⟩
theorem Hp.takeC {l : List At} {e : Ending} (h : Hp w0 F0 F L w) (hp : PC w l e w') : ∃ s c, e = .returned (.agg #[s]) ∧ Hp w0 F0 F (L ++ [c]) w' ∧ Held c s l.length 4 (rowA l) := by
  obtain ⟨s, c, rfl, hB, hc, hn, hh⟩ := hp
  exact ⟨s, c, rfl, h.gain c hB hc hn, hh⟩
theorem Hp.freezeLast {c : Ch} {s : Value} {n size : Nat} {xs : List Value} (h : Hp w0 F0 F (L ++ [c]) w) (hh : Held c s n size xs) : ∃ F', Sub F F' ∧ Hp w0 F0 F' L w ∧ FRow F' s n size xs := by
  obtain ⟨F', hs, h', hr⟩ := h.freezeHeld L.length (c := c) (by simp) hh
  refine ⟨F', hs, ?_, hr⟩
  have := h'.keep L.length
  rw [List.set_append_right _ _ (Nat.le_refl _), List.take_left] at this
  exact this
theorem Hp.takeF {l : List At} {e : Ending} (h : Hp w0 F0 F L w) (hp : PC w l e w') : ∃ F' s, e = .returned (.agg #[s]) ∧ Sub F F' ∧ Hp w0 F0 F' L w' ∧ FRow F' s l.length 4 (rowA l) := by
  obtain ⟨s, c, rfl, h, hh⟩ := h.takeC hp
  obtain ⟨F', hs, h, hr⟩ := h.freezeLast hh
  exact ⟨F', s, rfl, hs, h, hr⟩
theorem Held.one {c : Ch} {s : Value} {n size : Nat} {xs : List Value} (hh : Held c s n size xs) (hc : Ch.holds w c) : s.oneCell' = true := (hh (hv w) w hc fun _ _ => rfl).one
/-- Two of the chunks. -/
theorem Hp.two (h : Hp w0 F0 F L w) (i j : Nat) {c d : Ch} (hij : i ≠ j) (hi : L[i]? = some c) (hj : L[j]? = some d) : Hp w0 F0 F [c, d] w :=
  h.reorder (fun k => if k = 0 then i else j) (fun a b ha hb e => by
    simp at ha hb
    by_cases h1 : a = 0 <;> by_cases h2 : b = 0 <;> simp [h1, h2] at e <;> omega) (fun k e he => by
    match k, he with
    | 0, he => simp at he; subst he; exact hi
    | 1, he => simp at he; subst he; exact hj)
end

theorem l5One_new (w0 : World) (a : At) : Calls Try.prog 77 #[.agg a.cells.toArray] w0 (PC w0 [a]) := by
  refine calls 6 Try.func77 rfl rfl rfl ?_
  have h := Hp.start (F := hv w0) (Sub.refl _)
  refine W.seq (W.region rfl ?_)
  refine WL.box h (cs := a.cells) rfl (fun b1 w h => ?_)
  refine WL.alloc h T42 (fun b2 w h => ?_)
  refine WL.nil ?_
  refine W.seq (W.region rfl ?_)
  refine WL.p h (Val.ldS 0 A79 T79 rfl rfl rfl) ?_
  refine WL.bs1 h Try.underlying40 T79 (by decide) (cs := a.cells) rfl rfl (fun b3 w h => ?_)
  refine WL.p h (Val.build1 rfl (B42 _ _ _)) ?_
  refine WL.stS 1 h rfl T42 rfl (vs := [.slice (some ⟨b3, 0, none⟩) 1 1]) rfl (one1 rfl) rfl rfl (fun w h => ?_)
  refine WL.nil ?_
  refine W.ret ?_
  exact finBox h 1 rfl rfl rfl A42 T42 rfl (PC.of h 2 rfl (by simpa [rowA] using held_box (n := 1) (size := 4) (xs := a.cells) rfl (by omega)))
theorem l5None_new (w0 : World) : Calls Try.prog 100 #[] w0 (PC w0 [⟨1, 0, ⟨#[]⟩, 0⟩]) := by
  refine calls 3 Try.func100 rfl rfl rfl ?_
  have h := Hp.start (F := hv w0) (Sub.refl _)
  refine W.seq (W.region rfl ?_)
  refine WL.alloc h T42 (fun b2 w h => ?_)
  refine WL.nil ?_
  refine W.seq (W.region rfl ?_)
  refine WL.p h (Val.build1 rfl (B79k 1)) ?_
  refine WL.call C77 (args := [.agg (⟨1, 0, ⟨#[]⟩, 0⟩ : At).cells.toArray]) rfl ((l5One_new w _).mono ?_)
  intro e w' hp
  obtain ⟨s, c, rfl, h, hh⟩ := h.takeC hp
  refine ⟨_, rfl, ?_⟩
  refine WL.stS 0 h rfl T42 rfl (vs := [s]) rfl (one1 (hh.one (h.holds 1 _ rfl))) rfl rfl (fun w h => ?_)
  refine WL.nil ?_
  refine W.ret ?_
  exact finBox h 0 rfl rfl rfl A42 T42 rfl (PC.of h 1 rfl hh)
theorem l5Text_new (w0 : World) (t : ByteArray) : Calls Try.prog 86 #[.string t] w0 (PC w0 [⟨4, 0, t, 0⟩]) := by
  refine calls 6 Try.func86 rfl rfl rfl ?_
  have h := Hp.start (F := hv w0) (Sub.refl _)
  refine W.seq (W.region rfl ?_)
  refine WL.alloc h T42 (fun b2 w h => ?_)
  refine WL.nil ?_
  refine W.seq (W.region rfl ?_)
  refine WL.p h Val.mv ?_
  refine WL.p h (Val.build2 rfl rfl (B79t 4 t)) ?_
  refine WL.call C77 (args := [.agg (⟨4, 0, t, 0⟩ : At).cells.toArray]) rfl ((l5One_new w _).mono ?_)
  intro e w' hp
  obtain ⟨s, c, rfl, h, hh⟩ := h.takeC hp
  refine ⟨_, rfl, ?_⟩
  refine WL.stS 0 h rfl T42 rfl (vs := [s]) rfl (one1 (hh.one (h.holds 1 _ rfl))) rfl rfl (fun w h => ?_)
  refine WL.nil ?_
  refine W.ret ?_
  exact finBox h 0 rfl rfl rfl A42 T42 rfl (PC.of h 1 rfl hh)
theorem l5Int_new (w0 : World) (n : Int) : Calls Try.prog 50 #[.int .i64 n] w0 (PC w0 [⟨3, n, ⟨#[]⟩, 0⟩]) := by
  refine calls 6 Try.func50 rfl rfl rfl ?_
  have h := Hp.start (F := hv w0) (Sub.refl _)
  refine W.seq (W.region rfl ?_)
  refine WL.alloc h T42 (fun b2 w h => ?_)
  refine WL.nil ?_
  refine W.seq (W.region rfl ?_)
  refine WL.p h Val.mv ?_
  refine WL.p h (Val.build2 rfl rfl (B79n 3 n)) ?_
  refine WL.call C77 (args := [.agg (⟨3, n, ⟨#[]⟩, 0⟩ : At).cells.toArray]) rfl ((l5One_new w _).mono ?_)
  intro e w' hp
  obtain ⟨s, c, rfl, h, hh⟩ := h.takeC hp
  refine ⟨_, rfl, ?_⟩
  refine WL.stS 0 h rfl T42 rfl (vs := [s]) rfl (one1 (hh.one (h.holds 1 _ rfl))) rfl rfl (fun w h => ?_)
  refine WL.nil ?_
  refine W.ret ?_
  exact finBox h 0 rfl rfl rfl A42 T42 rfl (PC.of h 1 rfl hh)
theorem l5Bool_new (w0 : World) (b : Bool) : Calls Try.prog 47 #[.bool b] w0 (PC w0 [⟨2, if b then 1 else 0, ⟨#[]⟩, 0⟩]) := by
  refine calls 8 Try.func47 rfl rfl rfl ?_
  have h := Hp.start (F := hv w0) (Sub.refl _)
  refine W.seq (W.region rfl ?_)
  refine WL.alloc h T42 (fun b2 w h => ?_)
  refine WL.nil ?_
  refine W.seq (W.seq (W.region rfl ?_))
  refine WL.p h Val.mv ?_
  refine WL.nil ?_
  cases b with
  | true =>
    refine W.condT rfl ?_
    refine W.seq (W.region rfl ?_)
    refine WL.p h (Val.build2 rfl rfl (B79n 2 1)) ?_
    refine WL.call C77 (args := [.agg (⟨2, 1, ⟨#[]⟩, 0⟩ : At).cells.toArray]) rfl ((l5One_new w _).mono ?_)
    intro e w' hp
    obtain ⟨s, c, rfl, h, hh⟩ := h.takeC hp
    refine ⟨_, rfl, ?_⟩
    refine WL.stS 0 h rfl T42 rfl (vs := [s]) rfl (one1 (hh.one (h.holds 1 _ rfl))) rfl rfl (fun w h => ?_)
    refine WL.nil ?_
    refine W.ret ?_
    exact finBox h 0 rfl rfl rfl A42 T42 rfl (PC.of h 1 rfl hh)
  | false =>
    refine W.condF rfl ?_
    refine W.skip ?_
    refine W.seq (W.region rfl ?_)
    refine WL.p h (Val.build1 rfl (B79k 2)) ?_
    refine WL.call C77 (args := [.agg (⟨2, 0, ⟨#[]⟩, 0⟩ : At).cells.toArray]) rfl ((l5One_new w _).mono ?_)
    intro e w' hp
    obtain ⟨s, c, rfl, h, hh⟩ := h.takeC hp
    refine ⟨_, rfl, ?_⟩
    refine WL.stS 0 h rfl T42 rfl (vs := [s]) rfl (one1 (hh.one (h.holds 1 _ rfl))) rfl rfl (fun w h => ?_)
    refine WL.nil ?_
    refine W.ret ?_
    exact finBox h 0 rfl rfl rfl A42 T42 rfl (PC.of h 1 rfl hh)

/-! ### Lists of values -/
structure KR (F : Fz) (ss : List Value) (ess : List (List At)) : Prop where
  len : ss.length = ess.length
  get : ∀ (i : Nat) es, ess[i]? = some es → ∃ s, ss[i]? = some s ∧ FRow F s es.length 4 (rowA es)
theorem KR.mono {F G : Fz} {ss : List Value} {ess : List (List At)} (h : KR F ss ess) (hs : Sub F G) : KR G ss ess := ⟨h.len, fun i es he => by
  obtain ⟨s, h1, h2⟩ := h.get i es he
  exact ⟨s, h1, h2.mono hs⟩⟩
theorem KR.nil {F : Fz} : KR F [] [] := ⟨rfl, fun i es he => by simp at he⟩
theorem KR.snoc {F : Fz} {ss : List Value} {ess : List (List At)} (h : KR F ss ess) {s : Value} {es : List At} (hr : FRow F s es.length 4 (rowA es)) : KR F (ss ++ [s]) (ess ++ [es]) := ⟨by simp [h.len], fun i es' he => by
  by_cases hi : i < ess.length
  · rw [List.getElem?_append_left hi] at he
    obtain ⟨s', h1, h2⟩ := h.get i es' he
    exact ⟨s', by rw [List.getElem?_append_left (by rw [h.len]; exact hi)]; exact h1, h2⟩
  · have h0 : i = ess.length := by
      have := (List.getElem?_eq_some_iff.1 he).1
      simp at this; omega
    subst h0
    rw [List.getElem?_append_right (Nat.le_refl _), Nat.sub_self] at he
    simp at he; subst he
    exact ⟨s, by rw [List.getElem?_append_right (by rw [h.len]; exact Nat.le_refl _), h.len, Nat.sub_self]; rfl, hr⟩⟩
def KB (ess : List (List At)) (B : Nat) : Prop := ∀ es ∈ ess, es ≠ [] ∧ es.length ≤ B
theorem KB.nil {B : Nat} : KB [] B := fun es he => by simp at he
theorem KB.snoc {ess : List (List At)} {B : Nat} (h : KB ess B) {es : List At} (h1 : es ≠ []) (h2 : es.length ≤ B) : KB (ess ++ [es]) B := fun e he => by
  rw [List.mem_append] at he
  rcases he with he | he
  · exact h e he
  · rw [List.mem_singleton.1 he]; exact ⟨h1, h2⟩
theorem KB.flat : ∀ {ess : List (List At)} {B : Nat}, KB ess B → ess.flatten.length ≤ ess.length * B
  | [], B, h => by simp
  | es :: ess, B, h => by
    have h1 := (h es (by simp)).2
    have h2 := KB.flat (ess := ess) (B := B) (fun e he => h e (by simp [he]))
    simp only [List.flatten_cons, List.length_append, List.length_cons, Nat.add_mul, Nat.one_mul]; omega
theorem take_flat {ess : List (List At)} {i : Nat} {es : List At} (he : ess[i]? = some es) : (ess.take (i + 1)).flatten = (ess.take i).flatten ++ es := by
  obtain ⟨hlt, e⟩ := List.getElem?_eq_some_iff.1 he
  rw [List.take_succ_eq_append_getElem hlt, e]; simp
theorem take_flat_le (ess : List (List At)) (i : Nat) : (ess.take i).flatten.length ≤ ess.flatten.length := by
  have : ess.flatten = (ess.take i).flatten ++ (ess.drop i).flatten := by rw [← List.flatten_append, List.take_append_drop]
  rw [this, List.length_append]; omega
theorem len_flat : ∀ {ess : List (List At)}, (∀ es ∈ ess, es ≠ []) → ess.length ≤ ess.flatten.length
  | [], _ => by simp
  | es :: ess, h => by
    have h1 := len_flat (ess := ess) (fun e he => h e (by simp [he]))
    have h2 := List.length_pos_iff.2 (h es (by simp))
    simp only [List.flatten_cons, List.length_append, List.length_cons]; omega
def mkI (w0 : World) (b4 b5 : Nat) (z kv kd : Value) (ess : List (List At)) (m : Nat) (R : Regs) (w : World) : Prop :=
  ∃ (i : Nat) (s : Value), m + i = ess.length ∧ Hp w0 (hv w0) (hv w0) [.box b4 [z] 42, .box b5 [s] 42, .own s 79 4 (ess.take i).flatten.length (rowA (ess.take i).flatten)] w ∧ R 0 = kd ∧ R 1 = kv ∧ R 4 = pt b4 ∧ R 5 = pt b5 ∧ R 6 = .int .i64 (i : Int)
set_option maxHeartbeats 1000000 in
theorem l5Make_new (w0 : World) (kd : Int) (kv : Value) (ss : List Value) (ess : List (List At)) (hrow : FRow (hv w0) kv ess.length 1 ss) (hk : KR (hv w0) ss ess) (hne : ∀ es ∈ ess, es ≠ []) (hB : ess.flatten.length ≤ 1048576) : Calls Try.prog 87 #[.int .i64 kd, kv] w0 (PC w0 (ess.flatten ++ [⟨kd, 0, ⟨#[]⟩, ess.length⟩])) := by
  refine calls 33 Try.func87 rfl rfl rfl ?_
  have h := Hp.start (F := hv w0) (Sub.refl _)
  refine W.seq (W.region rfl ?_)
  refine WL.alloc h T42 (fun b4 w h => ?_)
  refine WL.nil ?_
  refine W.seq (W.region rfl ?_)
  refine WL.p h (Val.build0 B42e) ?_
  refine WL.alloc h T42 (fun b5 w h => ?_)
  refine WL.stS 1 h rfl T42 rfl (vs := [.slice none 0 0]) rfl (one1 rfl) rfl rfl (fun w h => ?_)
  refine WL.nil ?_
  refine W.seq (W.seq (W.region rfl ?_))
  refine WL.p h Val.as ?_
  refine WL.nil ?_
  refine W.block ?_
  refine W.loop (mkI w0 b4 b5 (.slice none 0 0) kv (.int .i64 kd) ess) ess.length ?_ (fun m R w hI => ?_)
  · exact ⟨0, .slice none 0 0, by omega, (h.nilRow 79 4).cast (by simp [rowA]; rfl), rfl, rfl, rfl, rfl, rfl⟩
  clear h
  obtain ⟨i, s, hm, h, h0, h1, h4, h5, h6⟩ := hI
  have hlen := len_flat hne
  have hF : (ess.take i).flatten.length ≤ 1048576 := Nat.le_trans (take_flat_le ess i) hB
  refine W.seq (W.seq (W.region rfl ?_))
  refine WL.p h Val.mv ?_
  refine WL.p h Val.mv ?_
  refine WL.p h (Val.len Try.underlying102 h1 hrow.val) ?_
  refine WL.p h (Val.lt h6 rfl) ?_
  refine WL.dec (fun c1 => ?_) (fun c1 => ?_)
  · obtain ⟨es, hes⟩ : ∃ es, ess[i]? = some es := ⟨_, List.getElem?_eq_getElem (by omega)⟩
    obtain ⟨k, hks, hkr⟩ := hk.get i es hes
    have hes0 : 0 < es.length := List.length_pos_iff.2 (hne es (List.mem_of_getElem? hes))
    obtain ⟨kc, hkc⟩ := hkr.slice hes0
    have hes1 : (ess.take (i + 1)).flatten.length ≤ 1048576 := Nat.le_trans (take_flat_le ess _) hB
    rw [take_flat hes, List.length_append] at hes1
    refine WL.nil ?_
    refine W.condT rfl ?_
    refine W.skip ?_
    refine W.seq (W.block ?_)
    refine W.draw (fun w => Hp w0 (hv w0) (hv w0) [.box b4 [.slice none 0 0] 42, .box b5 [s] 42, .own s 79 4 (ess.take i).flatten.length (rowA (ess.take i).flatten)] w) [7, 8, 9] 10 (by kernel_rfl) rfl rfl ?_
    have h := h.drewN 1
    have hS := h
    refine WD.take 0 rfl (by kernel_rfl) (fun _ _ _ h => fin_panic h) hS (Val.fa O42_0 h5) ?_
    refine WD.take 1 rfl (by kernel_rfl) (fun _ _ _ h => fin_panic h) hS (Val.ld 1 A40 rfl rfl rfl) ?_
    refine WD.take 2 rfl (by kernel_rfl) (fun _ _ _ h => fin_panic h) hS Val.mv ?_
    refine WD.take 3 rfl (by kernel_rfl) (fun _ _ _ h => fin_panic h) hS Val.mv ?_
    refine WD.take 4 rfl (by kernel_rfl) (fun _ _ _ h => fin_panic h) hS (Val.ix (i := i) Try.underlying102 T42 h1 h6 (hrow.slice (by omega)) (by omega)) ?_
    refine WD.take 5 rfl (by kernel_rfl) (fun _ _ _ h => fin_panic h) hS (Val.fa O42_0 rfl) ?_
    refine WD.take 6 rfl (by kernel_rfl) (fun _ _ _ h => fin_panic h) hS (Val.ldRf A40 hrow rfl (u := k) (by rw [Nat.mul_one]; exact hks)) ?_
    refine WD.last 7 rfl (by kernel_rfl) rfl ?_
    refine WL.app 2 h rfl Try.underlying40 T79 (by decide) rfl hkc (news := rowA es) (rowA_len es) (row_news h hkr) (fun u hu => by
      simp only [rowA, List.mem_flatMap] at hu
      obtain ⟨a, _, hu⟩ := hu
      exact at_one a u hu) (by omega) (by omega) (fun s' w h => ?_)
    refine WL.nil ?_
    refine WD.last 8 rfl (by kernel_rfl) rfl ?_
    refine WL.p h (Val.fa O42_0 h5) ?_
    refine WL.nil ?_
    refine WD.last 9 rfl (by kernel_rfl) rfl ?_
    refine WL.st 1 (v := s') h rfl T40 rfl rfl (h.own1 2 rfl) rfl (fun w h => ?_)
    refine WL.nil ?_
    refine WD.nil (by kernel_rfl) ?_
    refine W.region rfl ?_
    refine WL.p h Val.mv ?_
    refine WL.p h (Val.addi (c := ((i + 1 : Nat) : Int)) h6 rfl (by omega)) ?_
    refine WL.p h Val.as ?_
    refine WL.nil ?_
    refine ⟨m - 1, by omega, i + 1, s', by omega, h.cast ?_, h0, h1, h4, h5, rfl⟩
    rw [take_flat hes]
    simp [rowA_app]
  · have hi : i = ess.length := by omega
    rw [hi, List.take_length] at h
    refine WL.nil ?_
    refine W.condF rfl ?_
    refine W.exit ?_
    refine W.seq (W.region rfl ?_)
    refine WL.p h (Val.fa O42_0 h5) ?_
    refine WL.p h (Val.ld 1 A40 rfl rfl rfl) ?_
    refine WL.p h Val.mv ?_
    refine WL.p h Val.mv ?_
    refine WL.p h (Val.len Try.underlying102 h1 hrow.val) ?_
    refine WL.p h (Val.build2 h0 rfl (B79c kd ess.length)) ?_
    refine WL.bs1 h Try.underlying40 T79 (by decide) (cs := (⟨kd, 0, ⟨#[]⟩, ess.length⟩ : At).cells) rfl rfl (fun b10 w h => ?_)
    refine WL.app 2 h rfl Try.underlying40 T79 (by decide) rfl rfl (news := (⟨kd, 0, ⟨#[]⟩, ess.length⟩ : At).cells) rfl (box_news h (i := 3) rfl) (at_one _) (by omega) (by omega) (fun s' w h => ?_)
    refine WL.p h (Val.fa O42_0 h5) ?_
    refine WL.st 1 (v := s') h rfl T40 rfl rfl (h.own1 2 rfl) rfl (fun w h => ?_)
    refine WL.nil ?_
    refine W.seq (W.region rfl ?_)
    refine WL.p h (Val.ldS 1 A42 T42 rfl h5 rfl) ?_
    refine WL.stS 0 h rfl T42 h4 (vs := [s']) rfl (one1 (h.own1 2 rfl)) rfl rfl (fun w h => ?_)
    refine WL.nil ?_
    refine W.ret ?_
    refine finBox h 0 rfl h4 rfl A42 T42 rfl (PC.of h 2 rfl ?_)
    have := held_own (s := s') (T := 79) (n := ess.flatten.length + 1) (size := 4) (xs := rowA ess.flatten ++ (⟨kd, 0, ⟨#[]⟩, ess.length⟩ : At).cells)
    simpa [rowA] using this
end Go.Proofs.Ytmiihhbgfijcmaa.K

