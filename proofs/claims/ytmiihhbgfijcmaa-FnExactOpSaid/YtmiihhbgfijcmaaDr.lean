/- The draws: the reader, texts. -/
import Derived.Test.YtmiihhbgfijcmaaKh
namespace Go.Proofs.Ytmiihhbgfijcmaa.K
open Go Go.RowKit
set_option linter.unusedVariables false
set_option linter.unusedSimpArgs false
set_option maxRecDepth 20000
theorem C57 : CF Try.prog 57 := ⟨_, Try.func57, rfl, rfl⟩
theorem C55 : CF Try.prog 55 := ⟨_, Try.func55, rfl, rfl⟩
theorem C101 : CF Try.prog 101 := ⟨_, Try.func101, rfl, rfl⟩
theorem C102 : CF Try.prog 102 := ⟨_, Try.func102, rfl, rfl⟩
def byteV (x : UInt8) : Value := .int .u8 (x.toNat : Int)
def bc (x : UInt8) : List Value := [byteV x]
theorem bc_len (x : UInt8) : (bc x).length = 1 := rfl
def rowB (bs : List UInt8) : List Value := bs.flatMap bc
theorem rowB_len (bs : List UInt8) : (rowB bs).length = bs.length := by rw [rowB, flat_len bc bc_len, Nat.mul_one]
def rd (br : Nat) (bv : Value) (p : Int) : Ch := .box br [bv, .int .i64 p] 123
def PkP (w0 : World) (F0 F : Fz) (br : Nat) (bv : Value) (p n : Int) (e : Ending) (w : World) : Prop := ∃ r : Int, e = .returned (.int .i64 r) ∧ Hp w0 F0 F [rd br bv (p + 1)] w ∧ 0 ≤ r ∧ (1 ≤ n → r < n)
theorem B123 (A : Option Addr) (n c : Nat) : Try.prog.built 123 [(0, .slice A n c)] = some #[.slice A n c, .int .i64 0] := by kernel_rfl
theorem pick_bd {x y k D A1 B1 C1 D1 S1 S2 X : Nat} (hx : x < 256) (hy : y < 256) (hk : k ≤ 1099511627776) (hD : D ≤ k) (h1 : A1 = x * 131) (h2 : B1 = y * 1117) (h3 : C1 = k * 29) (h4 : D1 = D * 53) (h5 : S1 = A1 + B1) (h6 : S2 = S1 + C1) (h7 : X = S2 + D1) : X < 4611686018427387904 := by omega
set_option maxHeartbeats 2000000 in
theorem pick_calls {w0 w : World} {F0 F : Fz} {br : Nat} {bv : Value} {p : Int} {bs : List UInt8} (h : Hp w0 F0 F [rd br bv p] w) (hr : FRow F bv bs.length 1 (rowB bs)) (hl : bs.length ≤ 2000) (hp : 0 ≤ p ∧ p ≤ 1099511627776) (n : Int) (hn : n ≤ 1099511627776) :
    Calls Try.prog 57 #[pt br, .int .i64 n] w (PkP w0 F0 F br bv p n) := by
  refine calls 99 Try.func57 rfl rfl rfl ?_
  refine W.seq (W.region rfl ?_)
  refine WL.p h Val.as ?_
  refine WL.nil ?_
  refine W.seq (W.region rfl ?_)
  refine WL.p h Val.mv ?_
  refine WL.p h Val.mv ?_
  refine WL.p h (Val.nilc rfl) ?_
  refine WL.p h (Val.fa O123_1 rfl) ?_
  refine WL.p h (Val.ld 0 A3 rfl rfl rfl) ?_
  refine WL.p h (Val.addi (c := p + 1) rfl rfl (by omega)) ?_
  refine WL.p h (Val.nilc rfl) ?_
  refine WL.p h (Val.fa O123_1 rfl) ?_
  refine WL.st 0 (v := .int .i64 (p + 1)) h rfl T3 rfl rfl rfl rfl (fun w h => ?_)
  refine WL.nil ?_
  have hfin : ∀ {w : World} {r : Int}, Hp w0 F0 F [rd br bv (p + 1)] w → 0 ≤ r → (1 ≤ n → r < n) → PkP w0 F0 F br bv p n (.returned (.int .i64 r)) w := fun h h1 h2 => ⟨_, rfl, h, h1, h2⟩
  refine W.seq (W.seq (W.region rfl ?_))
  refine WL.p h Val.mv ?_
  refine WL.p h (Val.lt rfl rfl) ?_
  refine WL.dec (fun c1 => ?_) (fun c1 => ?_)
  · refine WL.p h Val.mv ?_
    refine WL.no rfl (WL.no rfl (WL.no rfl (WL.no rfl (WL.no rfl (WL.no rfl (?_))))))
    refine WL.p h (Val.pick rfl) ?_
    refine WL.nil ?_
    refine W.condT rfl ?_
    refine W.seq (W.region rfl ?_)
    refine WL.p h Val.as ?_
    refine WL.nil ?_
    refine W.ret ?_
    exact fin1 (v := .int .i64 0) rfl rfl (hfin h (by omega) (by omega))
  refine WL.p h Val.mv ?_
  refine WL.p h Val.mv ?_
  refine WL.p h (Val.nilc rfl) ?_
  refine WL.p h (Val.fa O123_0 rfl) ?_
  refine WL.p h (Val.ld 0 A52 rfl rfl rfl) ?_
  refine WL.p h (Val.len Try.underlying52 rfl hr.val) ?_
  refine WL.p h (Val.eq rfl rfl) ?_
  refine WL.dec (fun c2 => ?_) (fun c2 => ?_)
  · refine WL.p h (Val.pick rfl) ?_
    refine WL.nil ?_
    refine W.condT rfl ?_
    refine W.seq (W.region rfl ?_)
    refine WL.p h Val.as ?_
    refine WL.nil ?_
    refine W.ret ?_
    exact fin1 (v := .int .i64 0) rfl rfl (hfin h (by omega) (by omega))
  refine WL.p h (Val.pick rfl) ?_
  refine WL.nil ?_
  refine W.condF rfl ?_
  refine W.skip ?_
  have hpos : 0 < bs.length := by omega
  obtain ⟨k, hk⟩ : ∃ k : Nat, p = k := ⟨p.toNat, by omega⟩
  refine W.seq (W.region rfl ?_)
  refine WL.p h Val.mv ?_
  refine WL.p h (Val.nilc rfl) ?_
  refine WL.p h (Val.fa O123_1 rfl) ?_
  refine WL.p h (Val.ld 0 A3 rfl rfl rfl) ?_
  refine WL.p h (Val.subi (c := (k : Int)) rfl rfl (by omega)) ?_
  refine WL.p h Val.as ?_
  refine WL.nil ?_
  refine W.seq (W.seq (W.region rfl ?_))
  refine WL.p h Val.mv ?_
  refine WL.p h Val.mv ?_
  refine WL.p h (Val.nilc rfl) ?_
  refine WL.p h (Val.fa O123_0 rfl) ?_
  refine WL.p h (Val.ld 0 A52 rfl rfl rfl) ?_
  refine WL.p h (Val.len Try.underlying52 rfl hr.val) ?_
  refine WL.p h (Val.lt (a := (k : Int)) rfl rfl) ?_
  have hget : ∀ i, i < bs.length → ∃ x, bs[i]? = some x := fun i hi => ⟨_, List.getElem?_eq_getElem hi⟩
  refine WL.dec (fun c3 => ?_) (fun c3 => ?_)
  · obtain ⟨x, hx⟩ := hget k (by omega)
    have hx8 := x.toNat_lt
    refine WL.nil ?_
    refine W.condT rfl ?_
    refine W.seq (W.region rfl ?_)
    refine WL.p h Val.mv ?_
    refine WL.p h (Val.nilc rfl) ?_
    refine WL.p h (Val.fa O123_0 rfl) ?_
    refine WL.p h (Val.ld 0 A52 rfl rfl rfl) ?_
    refine WL.p h Val.mv ?_
    refine WL.p h (Val.ix (i := k) Try.underlying52 T5 rfl rfl (hr.slice (by omega)) (by omega)) ?_
    refine WL.p h (Val.ldR A5 hr rfl (u := byteV x) (flat_get bc bc_len bs k 0 x _ hx rfl)) ?_
    refine WL.p h (Val.cvI (k' := .i64) (a := (x.toNat : Int)) (by kernel_rfl) (by kernel_rfl) (by kernel_rfl) rfl) ?_
    refine WL.p h Val.mv ?_
    refine WL.p h (Val.rem (b := n) rfl rfl (by omega)) ?_
    refine WL.p h Val.as ?_
    refine WL.nil ?_
    refine W.ret ?_
    refine fin1 rfl rfl (hfin h ?_ ?_)
    · rw [wrap_in (by omega), Int.tmod_eq_emod_of_nonneg (by omega)]; exact Int.emod_nonneg _ (by omega)
    · intro _; rw [wrap_in (by omega), Int.tmod_eq_emod_of_nonneg (by omega)]; exact Int.emod_lt_of_pos _ (by omega)
  refine WL.nil ?_
  refine W.condF rfl ?_
  refine W.skip ?_
  have hkb : k ≤ 1099511627776 := by omega
  have hm1 : k % bs.length < bs.length := Nat.mod_lt _ hpos
  have hm2 : (k * 7 + 3) % bs.length < bs.length := Nat.mod_lt _ hpos
  obtain ⟨x, hx⟩ := hget _ hm1
  obtain ⟨y, hy⟩ := hget _ hm2
  have hx8 := x.toNat_lt
  have hy8 := y.toNat_lt
  obtain ⟨D, hD⟩ : ∃ D, D = k / bs.length := ⟨_, rfl⟩
  have hDk : D ≤ k := by rw [hD]; exact Nat.div_le_self _ _
  have hDd : ((k : Int)).tdiv (bs.length : Int) = (D : Int) := by rw [Int.tdiv_eq_ediv_of_nonneg (by omega), hD]; exact (Int.natCast_ediv _ _).symm
  obtain ⟨A1, hA1⟩ : ∃ A : Nat, A = x.toNat * 131 := ⟨_, rfl⟩
  obtain ⟨B1, hB1⟩ : ∃ A : Nat, A = y.toNat * 1117 := ⟨_, rfl⟩
  obtain ⟨C1, hC1⟩ : ∃ A : Nat, A = k * 29 := ⟨_, rfl⟩
  obtain ⟨D1, hD1⟩ : ∃ A : Nat, A = D * 53 := ⟨_, rfl⟩
  obtain ⟨K7, hK7⟩ : ∃ A : Nat, A = k * 7 := ⟨_, rfl⟩
  obtain ⟨K8, hK8⟩ : ∃ A : Nat, A = K7 + 3 := ⟨_, rfl⟩
  obtain ⟨S1, hS1⟩ : ∃ A : Nat, A = A1 + B1 := ⟨_, rfl⟩
  obtain ⟨S2, hS2⟩ : ∃ A : Nat, A = S1 + C1 := ⟨_, rfl⟩
  obtain ⟨X, hX⟩ : ∃ A : Nat, A = S2 + D1 := ⟨_, rfl⟩
  obtain ⟨m1, hm1e⟩ : ∃ A : Nat, A = k % bs.length := ⟨_, rfl⟩
  obtain ⟨m2, hm2e⟩ : ∃ A : Nat, A = K8 % bs.length := ⟨_, rfl⟩
  have hXb : X < 4611686018427387904 := pick_bd hx8 hy8 hkb hDk hA1 hB1 hC1 hD1 hS1 hS2 hX
  obtain ⟨Y, hYb, hY⟩ : ∃ A : Nat, A < 4611686018427387904 ∧ (A : Int) = (X : Int).tdiv 64 := ⟨X / 64, by omega, by rw [Int.tdiv_eq_ediv_of_nonneg (by omega)]; omega⟩
  have hY2 : -9223372036854775808 ≤ (X : Int).tdiv 64 ∧ (X : Int).tdiv 64 ≤ 9223372036854775807 := by rw [← hY]; omega
  have hr1 : 0 ≤ (((X ^^^ Y : Nat) : Int)).tmod n := by rw [Int.tmod_eq_emod_of_nonneg (by omega)]; exact Int.emod_nonneg _ (by omega)
  have hr2 : 1 ≤ n → (((X ^^^ Y : Nat) : Int)).tmod n < n := fun _ => by rw [Int.tmod_eq_emod_of_nonneg (by omega)]; exact Int.emod_lt_of_pos _ (by omega)
  have hn0 : n ≠ 0 := by omega
  have hS := h
  have hmod : ∀ a : Nat, ((a : Int)).tmod (bs.length : Int) = ((a % bs.length : Nat) : Int) := fun a => by rw [Int.tmod_eq_emod_of_nonneg (by omega)]; exact (Int.natCast_emod _ _).symm
  refine W.seq (W.draw (fun w => Hp w0 F0 F [rd br bv (p + 1)] w) [] 46 (by kernel_rfl) rfl rfl ?_)
  have hS := h.drewN 1
  refine WD.take 0 rfl (by kernel_rfl) (fun _ _ _ h => fin_panic h) hS Val.mv ?_
  refine WD.take 1 rfl (by kernel_rfl) (fun _ _ _ h => fin_panic h) hS (Val.nilc rfl) ?_
  refine WD.take 2 rfl (by kernel_rfl) (fun _ _ _ h => fin_panic h) hS (Val.fa O123_0 rfl) ?_
  refine WD.take 3 rfl (by kernel_rfl) (fun _ _ _ h => fin_panic h) hS (Val.ld 0 A52 rfl rfl rfl) ?_
  refine WD.take 4 rfl (by kernel_rfl) (fun _ _ _ h => fin_panic h) hS Val.mv ?_
  refine WD.take 5 rfl (by kernel_rfl) (fun _ _ _ h => fin_panic h) hS Val.mv ?_
  refine WD.take 6 rfl (by kernel_rfl) (fun _ _ _ h => fin_panic h) hS (Val.nilc rfl) ?_
  refine WD.take 7 rfl (by kernel_rfl) (fun _ _ _ h => fin_panic h) hS (Val.fa O123_0 rfl) ?_
  refine WD.take 8 rfl (by kernel_rfl) (fun _ _ _ h => fin_panic h) hS (Val.ld 0 A52 rfl rfl rfl) ?_
  refine WD.take 9 rfl (by kernel_rfl) (fun _ _ _ h => fin_panic h) hS (Val.len Try.underlying52 rfl hr.val) ?_
  refine WD.take 10 rfl (by kernel_rfl) (fun _ _ _ h => fin_panic h) hS (Val.rem (a := (k : Int)) rfl rfl (by omega)) ?_
  refine WD.take 11 rfl (by kernel_rfl) (fun _ _ _ h => fin_panic h) hS (Val.ix (i := m1) Try.underlying52 T5 rfl (show Value.int .i64 ((k : Int).tmod (bs.length : Int)) = _ by rw [hmod, hm1e]) (hr.slice (by omega)) (by omega)) ?_
  refine WD.take 12 rfl (by kernel_rfl) (fun _ _ _ h => fin_panic h) hS (Val.ldR A5 hr rfl (u := byteV x) (by rw [hm1e]; exact flat_get bc bc_len bs _ 0 x _ hx rfl)) ?_
  refine WD.take 13 rfl (by kernel_rfl) (fun _ _ _ h => fin_panic h) hS (Val.cvI (k' := .i64) (a := (x.toNat : Int)) (by kernel_rfl) (by kernel_rfl) (by kernel_rfl) rfl) ?_
  refine WD.take 14 rfl (by kernel_rfl) (fun _ _ _ h => fin_panic h) hS (Val.muli (a := (x.toNat : Int)) (c := (A1 : Int)) (show Value.int .i64 (IntKind.i64.wrap (x.toNat : Int)) = _ by rw [wrap_in (by omega)]) rfl (by omega)) ?_
  refine WD.take 15 rfl (by kernel_rfl) (fun _ _ _ h => fin_panic h) hS Val.mv ?_
  refine WD.take 16 rfl (by kernel_rfl) (fun _ _ _ h => fin_panic h) hS (Val.nilc rfl) ?_
  refine WD.take 17 rfl (by kernel_rfl) (fun _ _ _ h => fin_panic h) hS (Val.fa O123_0 rfl) ?_
  refine WD.take 18 rfl (by kernel_rfl) (fun _ _ _ h => fin_panic h) hS (Val.ld 0 A52 rfl rfl rfl) ?_
  refine WD.take 19 rfl (by kernel_rfl) (fun _ _ _ h => fin_panic h) hS Val.mv ?_
  refine WD.take 20 rfl (by kernel_rfl) (fun _ _ _ h => fin_panic h) hS (Val.muli (a := (k : Int)) (c := (K7 : Int)) rfl rfl (by omega)) ?_
  refine WD.take 21 rfl (by kernel_rfl) (fun _ _ _ h => fin_panic h) hS (Val.addi (a := (K7 : Int)) (c := (K8 : Int)) rfl rfl (by omega)) ?_
  refine WD.take 22 rfl (by kernel_rfl) (fun _ _ _ h => fin_panic h) hS Val.mv ?_
  refine WD.take 23 rfl (by kernel_rfl) (fun _ _ _ h => fin_panic h) hS (Val.nilc rfl) ?_
  refine WD.take 24 rfl (by kernel_rfl) (fun _ _ _ h => fin_panic h) hS (Val.fa O123_0 rfl) ?_
  refine WD.take 25 rfl (by kernel_rfl) (fun _ _ _ h => fin_panic h) hS (Val.ld 0 A52 rfl rfl rfl) ?_
  refine WD.take 26 rfl (by kernel_rfl) (fun _ _ _ h => fin_panic h) hS (Val.len Try.underlying52 rfl hr.val) ?_
  refine WD.take 27 rfl (by kernel_rfl) (fun _ _ _ h => fin_panic h) hS (Val.rem (a := (K8 : Int)) rfl rfl (by omega)) ?_
  refine WD.take 28 rfl (by kernel_rfl) (fun _ _ _ h => fin_panic h) hS (Val.ix (i := m2) Try.underlying52 T5 rfl (show Value.int .i64 ((K8 : Int).tmod (bs.length : Int)) = _ by rw [hmod, hm2e]) (hr.slice (by omega)) (by rw [hm2e]; exact Nat.mod_lt _ hpos)) ?_
  refine WD.take 29 rfl (by kernel_rfl) (fun _ _ _ h => fin_panic h) hS (Val.ldR A5 hr rfl (u := byteV y) (by rw [hm2e, hK8, hK7]; exact flat_get bc bc_len bs _ 0 y _ hy rfl)) ?_
  refine WD.take 30 rfl (by kernel_rfl) (fun _ _ _ h => fin_panic h) hS (Val.cvI (k' := .i64) (a := (y.toNat : Int)) (by kernel_rfl) (by kernel_rfl) (by kernel_rfl) rfl) ?_
  refine WD.take 31 rfl (by kernel_rfl) (fun _ _ _ h => fin_panic h) hS (Val.muli (a := (y.toNat : Int)) (c := (B1 : Int)) (show Value.int .i64 (IntKind.i64.wrap (y.toNat : Int)) = _ by rw [wrap_in (by omega)]) rfl (by omega)) ?_
  refine WD.take 32 rfl (by kernel_rfl) (fun _ _ _ h => fin_panic h) hS (Val.addi (a := (A1 : Int)) (b := (B1 : Int)) (c := (S1 : Int)) rfl rfl (by omega)) ?_
  refine WD.take 33 rfl (by kernel_rfl) (fun _ _ _ h => fin_panic h) hS Val.mv ?_
  refine WD.take 34 rfl (by kernel_rfl) (fun _ _ _ h => fin_panic h) hS (Val.muli (a := (k : Int)) (c := (C1 : Int)) rfl rfl (by omega)) ?_
  refine WD.take 35 rfl (by kernel_rfl) (fun _ _ _ h => fin_panic h) hS (Val.addi (a := (S1 : Int)) (b := (C1 : Int)) (c := (S2 : Int)) rfl rfl (by omega)) ?_
  refine WD.take 36 rfl (by kernel_rfl) (fun _ _ _ h => fin_panic h) hS Val.mv ?_
  refine WD.take 37 rfl (by kernel_rfl) (fun _ _ _ h => fin_panic h) hS Val.mv ?_
  refine WD.take 38 rfl (by kernel_rfl) (fun _ _ _ h => fin_panic h) hS (Val.nilc rfl) ?_
  refine WD.take 39 rfl (by kernel_rfl) (fun _ _ _ h => fin_panic h) hS (Val.fa O123_0 rfl) ?_
  refine WD.take 40 rfl (by kernel_rfl) (fun _ _ _ h => fin_panic h) hS (Val.ld 0 A52 rfl rfl rfl) ?_
  refine WD.take 41 rfl (by kernel_rfl) (fun _ _ _ h => fin_panic h) hS (Val.len Try.underlying52 rfl hr.val) ?_
  refine WD.take 42 rfl (by kernel_rfl) (fun _ _ _ h => fin_panic h) hS (Val.quoi (a := (k : Int)) (c := (D : Int)) rfl rfl (by omega) (by rw [hDd]; omega)) ?_
  refine WD.take 43 rfl (by kernel_rfl) (fun _ _ _ h => fin_panic h) hS (Val.muli (a := (D : Int)) (c := (D1 : Int)) rfl rfl (by omega)) ?_
  refine WD.take 44 rfl (by kernel_rfl) (fun _ _ _ h => fin_panic h) hS (Val.addi (a := (S2 : Int)) (b := (D1 : Int)) (c := (X : Int)) rfl rfl (by omega)) ?_
  refine WD.take 45 rfl (by kernel_rfl) (fun _ _ _ h => fin_panic h) hS Val.as ?_
  refine WD.nil (by kernel_rfl) ?_
  have h := hS
  refine W.seq (W.region rfl ?_)
  refine WL.p h Val.mv ?_
  refine WL.p h Val.mv ?_
  refine WL.p h (Val.quoi (a := (X : Int)) (c := (Y : Int)) rfl rfl (by decide) ⟨hY, hY2⟩) ?_
  refine WL.p h (Val.xorN (a := X) (b := Y) rfl rfl hXb hYb) ?_
  refine WL.p h Val.as ?_
  refine WL.nil ?_
  refine W.seq (W.region rfl ?_)
  refine WL.p h Val.mv ?_
  refine WL.p h Val.mv ?_
  refine WL.p h (Val.rem (a := ((X ^^^ Y : Nat) : Int)) (b := n) rfl rfl hn0) ?_
  refine WL.p h Val.as ?_
  refine WL.nil ?_
  refine W.ret ?_
  exact fin1 rfl rfl (hfin h hr1 hr2)
end Go.Proofs.Ytmiihhbgfijcmaa.K

