/- fits and give: whether an inner value is within the bounds; walked. -/
import Derived.Test.YtmiihhbgfijcmaaFm
import Derived.Test.YtmiihhbgfijcmaaDp
import Derived.Test.YtmiihhbgfijcmaaNp
namespace Go.Proofs.Ytmiihhbgfijcmaa.K
open Go Go.RowKit
set_option linter.unusedVariables false
set_option linter.unusedSimpArgs false
set_option maxRecDepth 20000
theorem C92 : CF Try.prog 92 := ⟨_, Try.func92, rfl, rfl⟩
theorem C105 : CF Try.prog 105 := ⟨_, Try.func105, rfl, rfl⟩
theorem C111 : CF Try.prog 111 := ⟨_, Try.func111, rfl, rfl⟩
theorem T157 : TI Try.prog 157 (.nilFunc) 1 8 := TI.of (by kernel_rfl)
theorem A157 : AG Try.prog 157 false := AG.no Try.underlying157 (by simp) (by simp)
mutual
def okV : V → Int → Prop
  | .none, d => d ≤ 12
  | .bool _, d => d ≤ 12
  | .int _, d => d ≤ 12
  | .text s, d => d ≤ 12 ∧ s.size ≤ 1000
  | .list l, d => d ≤ 12 ∧ l.length ≤ 200 ∧ okVs l (d + 1)
  | .record ns vs, d => d ≤ 12 ∧ ns.length ≤ 200 ∧ (∀ n ∈ ns, d + 1 ≤ 12 ∧ n.size ≤ 1000) ∧ okVs vs (d + 1)
def okVs : List V → Int → Prop
  | [], _ => True
  | v :: vs, d => okV v d ∧ okVs vs d
end
theorem okV_d {v : V} {d : Int} (h : okV v d) : d ≤ 12 := by cases v <;> simp only [okV] at h <;> first | exact h | exact h.1
theorem okVs_iff : ∀ (l : List V) (d : Int), okVs l d ↔ ∀ (i : Nat) v, l[i]? = some v → okV v d
  | [], d => by simp [okVs]
  | v :: vs, d => by
    rw [okVs, okVs_iff vs]
    constructor
    · rintro ⟨h1, h2⟩ i k hk
      cases i with
      | zero => simp at hk; exact hk ▸ h1
      | succ i => exact h2 i k (by simpa using hk)
    · intro h
      exact ⟨h 0 v rfl, fun i k hk => h (i + 1) k (by simpa using hk)⟩
def fitF (bn bw : Nat) : Value := .func (.func 111) #[] #[pt bn, pt bw]
def FL (bn bw : Nat) (n : Nat) : List Ch := [.box bn [.int .i64 (n : Int)] 3, .box bw [fitF bn bw] 157]
def PFit (w0 : World) (F0 F : Fz) (bn bw : Nat) (v : V) (d : Int) (n : Nat) (e : Ending) (w : World) : Prop :=
  ∃ ok n', e = .returned (.bool ok) ∧ Hp w0 F0 F (FL bn bw n') w ∧ (ok = true → n' = n + (packV v).length ∧ n' ≤ 1000 ∧ okV v d) ∧ (ok = false → ¬ (okV v d ∧ n + (packV v).length ≤ 1000))
def flI (w0 : World) (F0 F : Fz) (bn bw : Nat) (u : Value) (l : List V) (d : Int) (n : Nat) (m : Nat) (R : Regs) (w : World) : Prop :=
  ∃ (i : Nat), m + i = l.length ∧ Hp w0 F0 F (FL bn bw (n + 1 + (packVs (l.take i)).length)) w ∧ n + 1 + (packVs (l.take i)).length ≤ 1000 ∧ (∀ (j : Nat) v, j < i → l[j]? = some v → okV v (d + 1)) ∧ R 1 = .int .i64 d ∧ R 2 = pt bn ∧ R 3 = pt bw ∧ R 35 = u ∧ R 36 = .int .i64 (l.length : Int) ∧ R 37 = .int .i64 (i : Int)
def frI (w0 : World) (F0 F : Fz) (bn bw b11 : Nat) (na va : Value) (ns : List ByteArray) (l : List V) (d : Int) (n : Nat) (m : Nat) (R : Regs) (w : World) : Prop :=
  ∃ (i : Nat), m + i = ns.length ∧ Hp w0 F0 F (FL bn bw (n + 1 + (packR (ns.take i) (l.take i)).length) ++ [.box b11 [na, va] 112]) w ∧ n + 1 + (packR (ns.take i) (l.take i)).length ≤ 1000 ∧ (∀ (j : Nat) v, j < i → l[j]? = some v → okV v (d + 1)) ∧ (∀ (j : Nat) s, j < i → ns[j]? = some s → d + 1 ≤ 12 ∧ s.size ≤ 1000) ∧ R 1 = .int .i64 d ∧ R 2 = pt bn ∧ R 3 = pt bw ∧ R 11 = pt b11 ∧ R 56 = na ∧ R 57 = .int .i64 (ns.length : Int) ∧ R 58 = .int .i64 (i : Int)
theorem packVs_take {l : List V} {i : Nat} {x : V} (hx : l[i]? = some x) : packVs (l.take (i + 1)) = packVs (l.take i) ++ packV x := by
  obtain ⟨hlt, e⟩ := List.getElem?_eq_some_iff.1 hx
  rw [List.take_succ_eq_append_getElem hlt, packVs_app, e]; simp [packVs]
theorem packR_take {ns : List ByteArray} {l : List V} {i : Nat} {s : ByteArray} {x : V} (hl : ns.length = l.length) (hs : ns[i]? = some s) (hx : l[i]? = some x) : (packR (ns.take (i + 1)) (l.take (i + 1))).length = (packR (ns.take i) (l.take i)).length + 1 + (packV x).length := by
  obtain ⟨h1, e1⟩ := List.getElem?_eq_some_iff.1 hs
  obtain ⟨h2, e2⟩ := List.getElem?_eq_some_iff.1 hx
  rw [List.take_succ_eq_append_getElem h1, List.take_succ_eq_append_getElem h2, packR_app _ _ _ _ (by simp; omega), e1, e2]
  simp; omega
set_option maxHeartbeats 4000000 in
theorem fit_calls (w0 : World) (F0 : Fz) (bn bw : Nat) : ∀ (m : Nat) (v : V) (F : Fz) (w : World) (a : Value) (d : Int) (n : Nat) (hr : Rep F v a) (h : Hp w0 F0 F (FL bn bw n) w) (hn : n ≤ 1000) (hd : 0 ≤ d ∧ d ≤ 13) (hm : (packV v).length = m) (hmb : m ≤ 1048576) (args : List Value) (ha : args = [a, .int .i64 d, pt bn, pt bw]), Calls Try.prog 111 args.toArray w (PFit w0 F0 F bn bw v d n) := by
  intro m
  induction m using Nat.strongRecOn with
  | ind m ih =>
  intro v F w a d n hr h hn hd hm hmb args ha
  subst ha
  have hpos := packV_pos v
  have hno : ∀ {w : World} {n' : Nat}, Hp w0 F0 F (FL bn bw n') w → ¬ (okV v d ∧ n + (packV v).length ≤ 1000) → PFit w0 F0 F bn bw v d n (.returned (.bool false)) w := fun h hc => ⟨false, _, rfl, h, by simp, fun _ => hc⟩
  have hyes : ∀ {w : World} {n' : Nat}, Hp w0 F0 F (FL bn bw n') w → n' = n + (packV v).length → n' ≤ 1000 → okV v d → PFit w0 F0 F bn bw v d n (.returned (.bool true)) w := fun h h1 h2 h3 => ⟨true, _, rfl, h, fun _ => ⟨h1, h2, h3⟩, by simp⟩
  refine calls 83 Try.func111 rfl rfl rfl ?_
  refine W.seq (W.region rfl ?_)
  refine WL.p h Val.as ?_
  refine WL.nil ?_
  refine W.seq (W.region rfl ?_)
  refine WL.p h (Val.ld 0 A3 rfl rfl rfl) ?_
  refine WL.p h (Val.addi (c := ((n + 1 : Nat) : Int)) rfl rfl (by omega)) ?_
  refine WL.st 0 (v := .int .i64 ((n + 1 : Nat) : Int)) h rfl T3 rfl rfl rfl rfl (fun w h => ?_)
  refine WL.nil ?_
  have h : Hp w0 F0 F (FL bn bw (n + 1)) w := h
  refine W.cut (fun R w => Hp w0 F0 F (FL bn bw (n + 1)) w ∧ n + 1 ≤ 1000 ∧ d ≤ 12 ∧ R 0 = a ∧ R 1 = .int .i64 d ∧ R 2 = pt bn ∧ R 3 = pt bw) ?_ ?_
  · refine W.seq (W.region rfl ?_)
    refine WL.p h (Val.ld 0 A3 rfl rfl rfl) ?_
    refine WL.p h (Val.gt (a := ((n + 1 : Nat) : Int)) (b := 1000) rfl rfl) ?_
    refine WL.dec (fun c1 => ?_) (fun c1 => ?_)
    · refine WL.p h Val.mv ?_
      refine WL.no rfl (WL.no rfl (?_))
      refine WL.p h (Val.pick rfl) ?_
      refine WL.nil ?_
      refine W.condT rfl ?_
      refine W.seq (W.region rfl ?_)
      refine WL.p h Val.as ?_
      refine WL.nil ?_
      refine W.ret ?_
      exact fin1 (v := .bool false) rfl rfl (hno h (fun e => by omega))
    refine WL.p h Val.mv ?_
    refine WL.p h Val.mv ?_
    refine WL.p h (Val.gt (a := d) (b := 12) rfl rfl) ?_
    refine WL.dec (fun c2 => ?_) (fun c2 => ?_)
    · refine WL.p h (Val.pick rfl) ?_
      refine WL.nil ?_
      refine W.condT rfl ?_
      refine W.seq (W.region rfl ?_)
      refine WL.p h Val.as ?_
      refine WL.nil ?_
      refine W.ret ?_
      exact fin1 (v := .bool false) rfl rfl (hno h (fun e => by have := okV_d e.1; omega))
    refine WL.p h (Val.pick rfl) ?_
    refine WL.nil ?_
    refine W.condF rfl ?_
    refine W.skip ?_
    exact ⟨h, by omega, by omega, rfl, rfl, rfl, rfl⟩
  clear h
  rintro R w ⟨h, hn1, hd1, h0, h1, h2, h3⟩
  have hleaf : ∀ {R : Regs} {w : World}, Hp w0 F0 F (FL bn bw (n + 1)) w → (packV v).length = 1 → okV v d → fin Try.prog 83 Try.f111 (PFit w0 F0 F bn bw v d n) .ret (upd R 6 (.bool true)) w := fun h e1 e2 => fin1 (v := .bool true) rfl rfl (hyes h (by omega) hn1 e2)
  refine W.seq (W.seq (W.region rfl ?_))
  refine WL.p h Val.mv ?_
  refine WL.nil ?_
  refine W.block ?_
  cases v with
  | none =>
    simp only [Rep] at hr
    subst hr
    refine W.seq (W.region rfl ?_)
    refine WL.p h (Val.ta0 N9 T9 h0) ?_
    refine WL.p h (Val.ext rfl rfl) ?_
    refine WL.p h (Val.ext rfl rfl) ?_
    refine WL.nil ?_
    refine W.condF rfl ?_
    refine W.seq (W.region rfl ?_)
    refine WL.p h (Val.ta0 N110 T110 h0) ?_
    refine WL.p h (Val.ext rfl rfl) ?_
    refine WL.p h (Val.ext rfl rfl) ?_
    refine WL.nil ?_
    refine W.condF rfl ?_
    refine W.seq (W.region rfl ?_)
    refine WL.p h (Val.ta0 N112 T112 h0) ?_
    refine WL.p h (Val.ext rfl rfl) ?_
    refine WL.p h (Val.ext rfl rfl) ?_
    refine WL.nil ?_
    refine W.condF rfl ?_
    refine W.skip ?_
    refine W.seq (W.region rfl ?_)
    refine WL.p h Val.as ?_
    refine WL.nil ?_
    refine W.ret ?_
    exact hleaf h rfl hd1
  | bool b =>
    simp only [Rep] at hr
    subst hr
    refine W.seq (W.region rfl ?_)
    refine WL.p h (Val.taN N9 T9 h0 (by decide)) ?_
    refine WL.p h (Val.ext rfl rfl) ?_
    refine WL.p h (Val.ext rfl rfl) ?_
    refine WL.nil ?_
    refine W.condF rfl ?_
    refine W.seq (W.region rfl ?_)
    refine WL.p h (Val.taN N110 T110 h0 (by decide)) ?_
    refine WL.p h (Val.ext rfl rfl) ?_
    refine WL.p h (Val.ext rfl rfl) ?_
    refine WL.nil ?_
    refine W.condF rfl ?_
    refine W.seq (W.region rfl ?_)
    refine WL.p h (Val.taN N112 T112 h0 (by decide)) ?_
    refine WL.p h (Val.ext rfl rfl) ?_
    refine WL.p h (Val.ext rfl rfl) ?_
    refine WL.nil ?_
    refine W.condF rfl ?_
    refine W.skip ?_
    refine W.seq (W.region rfl ?_)
    refine WL.p h Val.as ?_
    refine WL.nil ?_
    refine W.ret ?_
    exact hleaf h rfl hd1
  | int k =>
    simp only [Rep] at hr
    subst hr
    refine W.seq (W.region rfl ?_)
    refine WL.p h (Val.taN N9 T9 h0 (by decide)) ?_
    refine WL.p h (Val.ext rfl rfl) ?_
    refine WL.p h (Val.ext rfl rfl) ?_
    refine WL.nil ?_
    refine W.condF rfl ?_
    refine W.seq (W.region rfl ?_)
    refine WL.p h (Val.taN N110 T110 h0 (by decide)) ?_
    refine WL.p h (Val.ext rfl rfl) ?_
    refine WL.p h (Val.ext rfl rfl) ?_
    refine WL.nil ?_
    refine W.condF rfl ?_
    refine W.seq (W.region rfl ?_)
    refine WL.p h (Val.taN N112 T112 h0 (by decide)) ?_
    refine WL.p h (Val.ext rfl rfl) ?_
    refine WL.p h (Val.ext rfl rfl) ?_
    refine WL.nil ?_
    refine W.condF rfl ?_
    refine W.skip ?_
    refine W.seq (W.region rfl ?_)
    refine WL.p h Val.as ?_
    refine WL.nil ?_
    refine W.ret ?_
    exact hleaf h rfl hd1
  | text t =>
    simp only [Rep] at hr
    subst hr
    refine W.seq (W.region rfl ?_)
    refine WL.p h (Val.taY N9 h0) ?_
    refine WL.p h (Val.ext rfl rfl) ?_
    refine WL.p h (Val.ext rfl rfl) ?_
    refine WL.nil ?_
    refine W.condT rfl ?_
    refine W.seq (W.region rfl ?_)
    refine WL.p h Val.as ?_
    refine WL.nil ?_
    refine W.seq (W.region rfl ?_)
    refine WL.p h Val.mv ?_
    refine WL.p h (Val.lenStr Try.underlying9 rfl) ?_
    refine WL.p h (Val.le (a := (t.size : Int)) (b := 1000) rfl rfl) ?_
    refine WL.p h Val.as ?_
    refine WL.nil ?_
    refine W.ret ?_
    have e1 : (packV (.text t)).length = 1 := rfl
    by_cases ht : (t.size : Int) ≤ 1000
    · exact fin1 (v := .bool true) rfl (show Value.bool (decide _) = _ by simp [ht]) (hyes h (by omega) hn1 ⟨hd1, by omega⟩)
    · exact fin1 (v := .bool false) rfl (show Value.bool (decide _) = _ by simp [ht]) (hno h (fun e => by have := e.1.2; omega))
  | list l =>
    simp only [Rep] at hr
    obtain ⟨u, us, rfl, hrow, hreps⟩ := hr
    have hpl : (packV (.list l)).length = (packVs l).length + 1 := by simp [packV]
    have hge := packVs_ge l
    refine W.seq (W.region rfl ?_)
    refine WL.p h (Val.taN N9 T9 h0 (by decide)) ?_
    refine WL.p h (Val.ext rfl rfl) ?_
    refine WL.p h (Val.ext rfl rfl) ?_
    refine WL.nil ?_
    refine W.condF rfl ?_
    refine W.seq (W.region rfl ?_)
    refine WL.p h (Val.taY N110 h0) ?_
    refine WL.p h (Val.ext rfl rfl) ?_
    refine WL.p h (Val.ext rfl rfl) ?_
    refine WL.nil ?_
    refine W.condT rfl ?_
    refine W.seq (W.region rfl ?_)
    refine WL.p h Val.as ?_
    refine WL.nil ?_
    refine W.seq (W.seq (W.region rfl ?_))
    refine WL.p h Val.mv ?_
    refine WL.p h (Val.len Try.underlying110 rfl hrow.val) ?_
    refine WL.p h (Val.gt (a := (l.length : Int)) (b := 200) rfl rfl) ?_
    refine WL.dec (fun c3 => ?_) (fun c3 => ?_)
    · refine WL.nil ?_
      refine W.condT rfl ?_
      refine W.seq (W.region rfl ?_)
      refine WL.p h Val.as ?_
      refine WL.nil ?_
      refine W.ret ?_
      exact fin1 (v := .bool false) rfl rfl (hno h (fun e => by have := e.1.2.1; omega))
    refine WL.nil ?_
    refine W.condF rfl ?_
    refine W.skip ?_
    refine W.seq (W.region rfl ?_)
    refine WL.p h Val.mv ?_
    refine WL.p h (Val.len Try.underlying110 rfl hrow.val) ?_
    refine WL.p h Val.mv ?_
    refine WL.nil ?_
    refine W.block ?_
    refine W.loop (flI w0 F0 F bn bw u l d n) l.length ?_ (fun m R w hI => ?_)
    · exact ⟨0, by omega, h, hn1, fun j v hj => by omega, h1, h2, h3, rfl, rfl, rfl⟩
    clear h h0 h1 h2 h3
    obtain ⟨i, hmi, h, hni, hok, h1, h2, h3, h35, h36, h37⟩ := hI
    refine W.seq (W.region rfl ?_)
    refine WL.p h (Val.lt h37 h36) ?_
    refine WL.dec (fun c4 => ?_) (fun c4 => ?_)
    · obtain ⟨x, hx⟩ : ∃ x, l[i]? = some x := ⟨_, List.getElem?_eq_getElem (by omega)⟩
      obtain ⟨c, hc, hrc⟩ := hreps.get hx
      have hle := packVs_le l i x hx
      have htk := packVs_take hx
      refine WL.nil ?_
      refine W.seq ?_
      refine W.condT rfl ?_
      refine W.skip ?_
      refine W.seq (W.block ?_)
      refine W.seq (W.region rfl ?_)
      refine WL.p h (Val.ix (i := i) Try.underlying110 T71 h35 h37 (hrow.slice (by omega)) (by omega)) ?_
      refine WL.p h (Val.ldR A71 hrow rfl (u := c) (by rw [Nat.mul_one]; exact hc)) ?_
      refine WL.p h Val.as ?_
      refine WL.nil ?_
      refine W.seq (W.region rfl ?_)
      refine WL.p h (Val.ld 1 A157 rfl h3 rfl) ?_
      refine WL.p h Val.mv ?_
      refine WL.p h Val.mv ?_
      refine WL.p h (Val.addi (c := d + 1) h1 rfl (by omega)) ?_
      refine WL.callC (args := [c, .int .i64 (d + 1)]) (caps := [pt bn, pt bw]) C111 rfl rfl ((ih (packV x).length (by omega) x F w c (d + 1) (n + 1 + (packVs (l.take i)).length) hrc h (by omega) (by omega) rfl (by omega) _ rfl).mono ?_)
      rintro e w' ⟨ok, n', rfl, h, hy, hz⟩
      refine ⟨_, rfl, ?_⟩
      refine WL.p h (Val.not rfl) ?_
      refine WL.nil ?_
      cases ok with
      | false =>
        have hc := hz rfl
        refine W.condT rfl ?_
        refine W.seq (W.region rfl ?_)
        refine WL.p h Val.as ?_
        refine WL.nil ?_
        refine W.ret ?_
        exact fin1 (v := .bool false) rfl rfl (hno h (fun e => hc ⟨(okVs_iff _ _).1 e.1.2.2 i x hx, by omega⟩))
      | true =>
        obtain ⟨hy1, hy2, hy3⟩ := hy rfl
        refine W.condF rfl ?_
        refine W.skip ?_
        refine W.region rfl ?_
        refine WL.p h (Val.addi (c := ((i + 1 : Nat) : Int)) h37 rfl (by omega)) ?_
        refine WL.p h Val.mv ?_
        refine WL.nil ?_
        have e1 : n' = n + 1 + (packVs (l.take (i + 1))).length := by rw [htk, List.length_append]; omega
        rw [e1] at h hy2
        exact ⟨m - 1, by omega, i + 1, by omega, h, hy2, fun j v hj hv => by
          by_cases hji : j = i
          · subst hji; rw [hx] at hv; cases hv; exact hy3
          · exact hok j v (by omega) hv, h1, h2, h3, h35, h36, rfl⟩
    · refine WL.nil ?_
      refine W.seq ?_
      refine W.condF rfl ?_
      refine W.exit ?_
      have hi : i = l.length := by omega
      rw [hi, List.take_length] at h hni
      refine W.seq (W.region rfl ?_)
      refine WL.p h Val.as ?_
      refine WL.nil ?_
      refine W.ret ?_
      exact fin1 (v := .bool true) rfl rfl (hyes h (by omega) hni ⟨hd1, by omega, (okVs_iff _ _).2 (fun j v hv => hok j v (by have := (List.getElem?_eq_some_iff.1 hv).1; omega) hv)⟩)
  | record ns vs =>
    simp only [Rep] at hr
    obtain ⟨na, va, us, rfl, hlen, hrn, hrv, hreps⟩ := hr
    have hpl : (packV (.record ns vs)).length = (packR ns vs).length + 1 := by simp [packV]
    have hge := packR_ge ns vs hlen
    refine W.seq (W.region rfl ?_)
    refine WL.p h (Val.taN N9 T9 h0 (by decide)) ?_
    refine WL.p h (Val.ext rfl rfl) ?_
    refine WL.p h (Val.ext rfl rfl) ?_
    refine WL.nil ?_
    refine W.condF rfl ?_
    refine W.seq (W.region rfl ?_)
    refine WL.p h (Val.taN N110 T110 h0 (by decide)) ?_
    refine WL.p h (Val.ext rfl rfl) ?_
    refine WL.p h (Val.ext rfl rfl) ?_
    refine WL.nil ?_
    refine W.condF rfl ?_
    refine W.seq (W.region rfl ?_)
    refine WL.p h (Val.taY N112 h0) ?_
    refine WL.p h (Val.ext rfl rfl) ?_
    refine WL.p h (Val.ext rfl rfl) ?_
    refine WL.nil ?_
    refine W.condT rfl ?_
    refine W.seq (W.region rfl ?_)
    refine WL.alloc h T112 (fun b11 w h => ?_)
    refine WL.stS 2 h rfl T112 rfl (vs := [na, va]) rfl (pair_one hrn.one hrv.one) rfl rfl (fun w h => ?_)
    refine WL.nil ?_
    have h : Hp w0 F0 F (FL bn bw (n + 1) ++ [.box b11 [na, va] 112]) w := h
    refine W.seq (W.seq (W.region rfl ?_))
    refine WL.p h (Val.fa O112_0 rfl) ?_
    refine WL.p h (Val.ld 2 A24 rfl rfl rfl) ?_
    refine WL.p h (Val.len Try.underlying24 rfl hrn.val) ?_
    refine WL.p h (Val.gt (a := (ns.length : Int)) (b := 200) rfl rfl) ?_
    refine WL.dec (fun c3 => ?_) (fun c3 => ?_)
    · refine WL.nil ?_
      refine W.condT rfl ?_
      refine W.seq (W.region rfl ?_)
      refine WL.p h Val.as ?_
      refine WL.nil ?_
      refine W.ret ?_
      exact fin1 (v := .bool false) rfl rfl (hno (h.keep 2) (fun e => by have := e.1.2.1; omega))
    refine WL.nil ?_
    refine W.condF rfl ?_
    refine W.skip ?_
    refine W.seq (W.region rfl ?_)
    refine WL.p h (Val.fa O112_0 rfl) ?_
    refine WL.p h (Val.ld 2 A24 rfl rfl rfl) ?_
    refine WL.p h (Val.len Try.underlying24 rfl hrn.val) ?_
    refine WL.p h Val.mv ?_
    refine WL.nil ?_
    refine W.block ?_
    refine W.loop (frI w0 F0 F bn bw b11 na va ns vs d n) ns.length ?_ (fun m R w hI => ?_)
    · exact ⟨0, by omega, h, hn1, fun j v hj => by omega, fun j v hj => by omega, h1, h2, h3, rfl, rfl, rfl, rfl⟩
    clear h h0 h1 h2 h3
    obtain ⟨i, hmi, h, hni, hok, hokn, h1, h2, h3, h11, h56, h57, h58⟩ := hI
    refine W.seq (W.region rfl ?_)
    refine WL.p h (Val.lt h58 h57) ?_
    refine WL.dec (fun c4 => ?_) (fun c4 => ?_)
    · obtain ⟨s, hs⟩ : ∃ x, ns[i]? = some x := ⟨_, List.getElem?_eq_getElem (by omega)⟩
      obtain ⟨x, hx⟩ : ∃ x, vs[i]? = some x := ⟨_, List.getElem?_eq_getElem (by omega)⟩
      obtain ⟨c, hc, hrc⟩ := hreps.get hx
      have hle := packR_le ns vs i s x hs hx
      have htk := packR_take hlen hs hx
      obtain ⟨q, hq⟩ : ∃ q, q = n + 1 + (packR (ns.take i) (vs.take i)).length := ⟨_, rfl⟩
      rw [← hq] at h hni
      refine WL.nil ?_
      refine W.seq ?_
      refine W.condT rfl ?_
      refine W.skip ?_
      refine W.seq (W.block ?_)
      refine W.seq (W.region rfl ?_)
      refine WL.p h Val.mv ?_
      refine WL.p h (Val.ix (i := i) Try.underlying24 T9 h56 h58 (hrn.slice (by omega)) (by omega)) ?_
      refine WL.p h (Val.ldR A9 hrn rfl (u := .string s) (by rw [Nat.mul_one, List.getElem?_map, hs]; rfl)) ?_
      refine WL.p h Val.as ?_
      refine WL.p h Val.as ?_
      refine WL.nil ?_
      have hokn' : ∀ (j : Nat) s, j < i + 1 → ns[j]? = some s → (d + 1 ≤ 12 ∧ s.size ≤ 1000) ∨ j = i := fun j s hj hv => by
        by_cases hji : j = i
        · exact .inr hji
        · exact .inl (hokn j s (by omega) hv)
      refine W.cut (fun R w => ∃ (t : Bool) (n' : Nat), Hp w0 F0 F (FL bn bw n' ++ [.box b11 [na, va] 112]) w ∧ R 81 = .bool t ∧ (t = true → ¬ (okV (.record ns vs) d ∧ n + (packV (.record ns vs)).length ≤ 1000)) ∧ (t = false → n' = n + 1 + (packR (ns.take (i + 1)) (vs.take (i + 1))).length ∧ n' ≤ 1000 ∧ okV x (d + 1) ∧ d + 1 ≤ 12 ∧ s.size ≤ 1000) ∧ R 1 = .int .i64 d ∧ R 2 = pt bn ∧ R 3 = pt bw ∧ R 11 = pt b11 ∧ R 56 = na ∧ R 57 = .int .i64 (ns.length : Int) ∧ R 58 = .int .i64 (i : Int)) ?_ ?_
      · refine W.draw (fun w => ∃ n' : Nat, Hp w0 F0 F (FL bn bw n' ++ [.box b11 [na, va] 112]) w) [16, 17, 18] 19 (by kernel_rfl) rfl rfl ?_
        have h := h.drewN 1
        have hS : ∃ n' : Nat, Hp w0 F0 F (FL bn bw n' ++ [.box b11 [na, va] 112]) _ := ⟨_, h⟩
        refine WD.take 0 rfl (by kernel_rfl) (fun _ _ _ h => fin_panic h) hS (Val.ex fun n' => Val.ld 1 A157 rfl h3 rfl) ?_
        refine WD.take 1 rfl (by kernel_rfl) (fun _ _ _ h => fin_panic h) hS Val.mv ?_
        refine WD.take 2 rfl (by kernel_rfl) (fun _ _ _ h => fin_panic h) hS (Val.mkI (v := .string s) (by kernel_rfl) rfl) ?_
        refine WD.take 3 rfl (by kernel_rfl) (fun _ _ _ h => fin_panic h) hS Val.mv ?_
        refine WD.take 4 rfl (by kernel_rfl) (fun _ _ _ h => fin_panic h) hS (Val.addi (c := d + 1) h1 rfl (by omega)) ?_
        refine WD.one 5 rfl (by kernel_rfl) ?_
        obtain ⟨F1, hsF, hA, hback⟩ := h.lend (A := FL bn bw q) (B := [.box b11 [na, va] 112])
        refine WL.callC (args := [.iface 9 (.string s), .int .i64 (d + 1)]) (caps := [pt bn, pt bw]) C111 rfl rfl ((ih 1 (by omega) (.text s) F1 _ (.iface 9 (.string s)) (d + 1) q rfl hA (by omega) (by omega) rfl (by omega) _ rfl).mono ?_)
        rintro e w' ⟨ok, n', rfl, hA, hy, hz⟩
        have h := hback _ _ hA
        have hS : ∃ n' : Nat, Hp w0 F0 F (FL bn bw n' ++ [.box b11 [na, va] 112]) _ := ⟨_, h⟩
        refine ⟨_, rfl, ?_⟩
        refine WL.nil ?_
        refine ⟨hS, ?_⟩
        cases ok with
        | false =>
          have hbad := hz rfl
          refine WD.take 6 rfl (by kernel_rfl) (fun _ _ _ h => fin_panic h) hS (Val.not rfl) ?_
          refine WD.take 7 rfl (by kernel_rfl) (fun _ _ _ h => fin_panic h) hS Val.mv ?_
          refine WD.skip 8 rfl (by kernel_rfl) (fun _ _ _ h => fin_panic h) hS rfl ?_
          refine WD.skip 9 rfl (by kernel_rfl) (fun _ _ _ h => fin_panic h) hS rfl ?_
          refine WD.skip 10 rfl (by kernel_rfl) (fun _ _ _ h => fin_panic h) hS rfl ?_
          refine WD.skip 11 rfl (by kernel_rfl) (fun _ _ _ h => fin_panic h) hS rfl ?_
          refine WD.skip 12 rfl (by kernel_rfl) (fun _ _ _ h => fin_panic h) hS rfl ?_
          refine WD.skip 13 rfl (by kernel_rfl) (fun _ _ _ h => fin_panic h) hS rfl ?_
          refine WD.skip 14 rfl (by kernel_rfl) (fun _ _ _ h => fin_panic h) hS rfl ?_
          refine WD.skip 15 rfl (by kernel_rfl) (fun _ _ _ h => fin_panic h) hS rfl ?_
          refine WD.last 16 rfl (by kernel_rfl) rfl ?_
          refine WL.no rfl (?_)
          refine WL.nil ?_
          refine WD.last 17 rfl (by kernel_rfl) rfl ?_
          refine WL.no rfl (?_)
          refine WL.nil ?_
          refine WD.last 18 rfl (by kernel_rfl) rfl ?_
          refine WL.p h (Val.pick rfl) ?_
          refine WL.nil ?_
          refine WD.nil (by kernel_rfl) ?_
          refine ⟨true, n', h, rfl, fun _ e => hbad ⟨e.1.2.2.1 s (List.mem_of_getElem? hs), ?_⟩, by simp, h1, h2, h3, h11, h56, h57, h58⟩
          have : (packV (.text s)).length = 1 := rfl
          have := packV_pos x
          omega
        | true =>
          obtain ⟨hy1, hy2, hy3⟩ := hy rfl
          have e1 : (packV (.text s)).length = 1 := rfl
          rw [e1] at hy1
          refine WD.take 6 rfl (by kernel_rfl) (fun _ _ _ h => fin_panic h) hS (Val.not rfl) ?_
          refine WD.take 7 rfl (by kernel_rfl) (fun _ _ _ h => fin_panic h) hS Val.mv ?_
          refine WD.take 8 rfl (by kernel_rfl) (fun _ _ _ h => fin_panic h) hS (Val.ex fun n' => Val.ld 1 A157 rfl h3 rfl) ?_
          refine WD.take 9 rfl (by kernel_rfl) (fun _ _ _ h => fin_panic h) hS (Val.faA O112_1 h11) ?_
          refine WD.take 10 rfl (by kernel_rfl) (fun _ _ _ h => fin_panic h) hS (Val.ex fun n' => Val.ld 2 A109 rfl rfl rfl) ?_
          refine WD.take 11 rfl (by kernel_rfl) (fun _ _ _ h => fin_panic h) hS Val.mv ?_
          refine WD.take 12 rfl (by kernel_rfl) (fun _ _ _ h => fin_panic h) hS (Val.ixA (i := i) (n := vs.length) Try.underlying109 T71 rfl h58 (hrv.slice (by omega)) (by omega)) ?_
          refine WD.take 13 rfl (by kernel_rfl) (fun _ _ _ h => fin_panic h) hS (Val.ex fun n' => Val.ldR A71 hrv rfl (u := c) (by rw [Nat.mul_one]; exact hc)) ?_
          refine WD.take 14 rfl (by kernel_rfl) (fun _ _ _ h => fin_panic h) hS Val.mv ?_
          refine WD.take 15 rfl (by kernel_rfl) (fun _ _ _ h => fin_panic h) hS (Val.addi (c := d + 1) h1 rfl (by omega)) ?_
          refine WD.last 16 rfl (by kernel_rfl) rfl ?_
          obtain ⟨F2, hsF2, hA2, hback2⟩ := h.lend (A := FL bn bw n') (B := [.box b11 [na, va] 112])
          refine WL.callC (args := [c, .int .i64 (d + 1)]) (caps := [pt bn, pt bw]) C111 rfl rfl ((ih (packV x).length (by omega) x F2 _ c (d + 1) n' (Rep.mono hsF2 _ _ hrc) hA2 (by omega) (by omega) rfl (by omega) _ rfl).mono ?_)
          rintro e w' ⟨ok2, n2, rfl, hA2, hyy, hzz⟩
          have h := hback2 _ _ hA2
          refine ⟨_, rfl, ?_⟩
          refine WL.nil ?_
          refine WD.last 17 rfl (by kernel_rfl) rfl ?_
          refine WL.p h (Val.not rfl) ?_
          refine WL.nil ?_
          refine WD.last 18 rfl (by kernel_rfl) rfl ?_
          refine WL.p h (Val.pick rfl) ?_
          refine WL.nil ?_
          refine WD.nil (by kernel_rfl) ?_
          refine ⟨!ok2, n2, h, rfl, fun e => ?_, fun e => ?_, h1, h2, h3, h11, h56, h57, h58⟩
          · have e : ok2 = false := by simpa using e
            have hbad := hzz e
            exact fun e => hbad ⟨(okVs_iff _ _).1 e.1.2.2.2 i x hx, by omega⟩
          · have e : ok2 = true := by simpa using e
            obtain ⟨g1, g2, g3⟩ := hyy e
            exact ⟨by rw [htk]; omega, g2, g3, hy3.1, hy3.2⟩
      · clear h h1 h2 h3 h11 h56 h57 h58
        rintro R w ⟨t, n', h, h81, hbad, hgood, h1, h2, h3, h11, h56, h57, h58⟩
        cases t with
        | true =>
          refine W.condT h81 ?_
          refine W.seq (W.region rfl ?_)
          refine WL.p h Val.as ?_
          refine WL.nil ?_
          refine W.ret ?_
          exact fin1 (v := .bool false) rfl rfl (hno (h.keep 2) (hbad rfl))
        | false =>
          obtain ⟨g1, g2, g3, g4, g5⟩ := hgood rfl
          refine W.condF h81 ?_
          refine W.skip ?_
          refine W.region rfl ?_
          refine WL.p h (Val.addi (c := ((i + 1 : Nat) : Int)) h58 rfl (by omega)) ?_
          refine WL.p h Val.mv ?_
          refine WL.nil ?_
          rw [g1] at h g2
          exact ⟨m - 1, by omega, i + 1, by omega, h, g2, fun j v hj hv => by
            by_cases hji : j = i
            · subst hji; rw [hx] at hv; cases hv; exact g3
            · exact hok j v (by omega) hv, fun j v hj hv => by
            by_cases hji : j = i
            · subst hji; rw [hs] at hv; cases hv; exact ⟨g4, g5⟩
            · exact hokn j v (by omega) hv, h1, h2, h3, h11, h56, h57, rfl⟩
    · refine WL.nil ?_
      refine W.seq ?_
      refine W.condF rfl ?_
      refine W.exit ?_
      have hi : i = ns.length := by omega
      have e1 : packR (ns.take i) (vs.take i) = packR ns vs := by rw [List.take_of_length_le (by omega), List.take_of_length_le (by omega)]
      rw [e1] at h hni
      refine W.seq (W.region rfl ?_)
      refine WL.p h Val.as ?_
      refine WL.nil ?_
      refine W.ret ?_
      exact fin1 (v := .bool true) rfl rfl (hyes (h.keep 2) (by omega) hni ⟨hd1, by omega, fun s hs => by
        obtain ⟨j, hj⟩ := List.mem_iff_getElem?.1 hs
        exact hokn j s (by have := (List.getElem?_eq_some_iff.1 hj).1; omega) hj, (okVs_iff _ _).2 (fun j v hv => hok j v (by have := (List.getElem?_eq_some_iff.1 hv).1; omega) hv)⟩)
def fitsV (v : V) : Prop := okV v 0 ∧ (packV v).length ≤ 1000
theorem fits_calls (F : Fz) (w0 : World) (hF : Sub F (hv w0)) (v : V) (a : Value) (hr : Rep F v a) (hb : (packV v).length ≤ 1048576) : Calls Try.prog 105 #[a] w0 fun e w' => ∃ ok, e = .returned (.bool ok) ∧ (ok = true ↔ fitsV v) ∧ Ext F w0 F w' := by
  refine calls 9 Try.func105 rfl rfl rfl ?_
  have h := Hp.start hF
  refine W.seq (W.region rfl ?_)
  refine WL.p h Val.as ?_
  refine WL.nil ?_
  refine W.seq (W.region rfl ?_)
  refine WL.alloc h T3 (fun bn w h => ?_)
  refine WL.st 0 (v := .int .i64 0) h rfl T3 rfl rfl rfl rfl (fun w h => ?_)
  refine WL.nil ?_
  refine W.seq (W.region rfl ?_)
  refine WL.alloc h T157 (fun bw w h => ?_)
  refine WL.nil ?_
  refine W.seq (W.region rfl ?_)
  refine WL.p h (Val.clo (caps := [pt bn, pt bw]) rfl) ?_
  refine WL.st 1 (v := fitF bn bw) h rfl T157 rfl rfl rfl rfl (fun w h => ?_)
  refine WL.nil ?_
  have h : Hp w0 F F (FL bn bw 0) w := h
  refine W.seq (W.region rfl ?_)
  refine WL.p h (Val.ld 1 A157 rfl rfl rfl) ?_
  refine WL.p h Val.mv ?_
  refine WL.callC (args := [a, .int .i64 0]) (caps := [pt bn, pt bw]) C111 rfl rfl ((fit_calls w0 F bn bw _ v F w a 0 0 hr h (by omega) (by omega) rfl hb _ rfl).mono ?_)
  rintro e w' ⟨ok, n', rfl, h, hy, hz⟩
  refine ⟨_, rfl, ?_⟩
  refine WL.p h Val.as ?_
  refine WL.nil ?_
  refine W.ret ?_
  refine fin1 (v := .bool ok) rfl rfl ⟨ok, rfl, ?_, h.toExt⟩
  cases ok with
  | true => exact iff_of_true rfl ⟨(hy rfl).2.2, by have := hy rfl; omega⟩
  | false => exact iff_of_false (by simp) (fun e => hz rfl ⟨e.1, by have := e.2; omega⟩)
open Classical in
noncomputable def giveV (v : V) : V × ByteArray := if fitsV v then (v, ⟨#[]⟩) else (.none, wLarge)
theorem give_calls (F : Fz) (w0 : World) (hF : Sub F (hv w0)) (v : V) (a : Value) (hr : Rep F v a) (hb : (packV v).length ≤ 1048576) : Calls Try.prog 92 #[a] w0 (PVW F w0 (giveV v)) := by
  refine calls 8 Try.func92 rfl rfl rfl ?_
  have h := Hp.start hF
  refine W.seq (W.region rfl ?_)
  refine WL.p h Val.as ?_
  refine WL.p h Val.as ?_
  refine WL.nil ?_
  refine W.seq (W.seq (W.region rfl ?_))
  refine WL.p h Val.mv ?_
  refine WL.call C105 (args := [a]) rfl ((fits_calls F _ h.sub v a hr hb).mono ?_)
  rintro e w' ⟨ok, rfl, hok, hE⟩
  have h := h.call hE
  refine ⟨_, rfl, ?_⟩
  refine WL.p h (Val.not rfl) ?_
  refine WL.nil ?_
  cases ok with
  | false =>
    have hn : ¬ fitsV v := fun e => by cases hok.2 e
    refine W.condT rfl ?_
    refine W.seq (W.region rfl ?_)
    refine WL.p h Val.as ?_
    refine WL.p h Val.as ?_
    refine WL.nil ?_
    refine W.ret ?_
    exact fin2 (v := .nilIface) (x := .string wLarge) rfl rfl rfl (PVW.mk h.toExt (by rw [giveV, if_neg hn]) (by rw [giveV, if_neg hn]; rfl))
  | true =>
    have hy := hok.1 rfl
    refine W.condF rfl ?_
    refine W.skip ?_
    refine W.seq (W.region rfl ?_)
    refine WL.p h Val.mv ?_
    refine WL.p h Val.as ?_
    refine WL.p h Val.as ?_
    refine WL.nil ?_
    refine W.ret ?_
    exact fin2 (v := a) (x := .string ⟨#[]⟩) rfl rfl rfl (PVW.mk h.toExt (by rw [giveV, if_pos hy]) (by rw [giveV, if_pos hy]; exact hr))
end Go.Proofs.Ytmiihhbgfijcmaa.K

