/- Targets: the law's marks on lists of targets, and their reading. -/
import Derived.Test.YtmiihhbgfijcmaaGreatZt
namespace Go.Proofs.YtmiihhbgfijcmaaGreat.K
open Go Go.RowKit
set_option linter.unusedVariables false
set_option linter.unusedSimpArgs false
set_option maxRecDepth 20000
theorem C54q : CF Tryz.prog 54 := ⟨_, Tryz.func54, rfl, rfl⟩
theorem C55q : CF Tryz.prog 55 := ⟨_, Tryz.func55, rfl, rfl⟩
theorem C32q : CF Tryz.prog 32 := ⟨_, Tryz.func32, rfl, rfl⟩
theorem C33q : CF Tryz.prog 33 := ⟨_, Tryz.func33, rfl, rfl⟩
def mkT (k : Int) (t : Tv) : Tv := (⟨mt k, mt (k + 1), mt (k + 2), mks (k + 3) t.1.ins.length, mks (k + 3 + (t.1.ins.length : Int)) t.1.outs.length⟩, t.2.1, t.2.2)
def wid (t : Tv) : Int := 3 + (t.1.ins.length : Int) + (t.1.outs.length : Int)
def totT : List Tv → Int
  | [] => 0
  | t :: r => wid t + totT r
def mkTs : Int → List Tv → List Tv
  | _, [] => []
  | k, t :: r => mkT k t :: mkTs (k + wid t) r
theorem totT_app : ∀ (a b : List Tv), totT (a ++ b) = totT a + totT b
  | [], b => by simp [totT]
  | t :: a, b => by simp only [List.cons_append, totT, totT_app a b]; omega
theorem mkTs_app : ∀ (a b : List Tv) (k : Int), mkTs k (a ++ b) = mkTs k a ++ mkTs (k + totT a) b
  | [], b, k => by simp [mkTs, totT]
  | t :: a, b, k => by
    have := mkTs_app a b (k + wid t)
    simp only [List.cons_append, mkTs, totT, this]
    rw [show k + wid t + totT a = k + (wid t + totT a) by omega]
theorem mkTs_len : ∀ (a : List Tv) (k : Int), (mkTs k a).length = a.length
  | [], k => rfl
  | t :: a, k => by simp [mkTs, mkTs_len a]
theorem totT_bd : ∀ (a : List Tv), (∀ t ∈ a, OneT t) → 0 ≤ totT a ∧ totT a ≤ 2003 * (a.length : Int)
  | [], _ => by simp [totT]
  | t :: a, h => by
    have ih := totT_bd a fun t ht => h t (by simp [ht])
    have h1 := (h t (by simp)).2
    simp only [totT, wid, List.length_cons]
    omega
theorem take_snoc {ts : List Tv} {i : Nat} {t : Tv} (h : ts[i]? = some t) : ts.take (i + 1) = ts.take i ++ [t] := by
  obtain ⟨l1, e1⟩ := List.getElem?_eq_some_iff.1 h
  rw [List.take_succ_eq_append_getElem l1, e1]
theorem mkTs_get {ts : List Tv} {i : Nat} {t : Tv} (k : Int) (h : ts[i]? = some t) : (mkTs k ts)[i]? = some (mkT (k + totT (ts.take i)) t) := by
  have e : ts = ts.take i ++ t :: ts.drop (i + 1) := by
    rw [← drop_at h, List.take_append_drop]
  have hl := (List.getElem?_eq_some_iff.1 h).1
  conv => lhs; rw [e, mkTs_app]
  rw [List.getElem?_append_right (by rw [mkTs_len, List.length_take]; omega), mkTs_len, List.length_take, Nat.min_eq_left (by omega), Nat.sub_self]
  rfl
theorem set3 (X Y : List Value) (a b c d e a' b' c' : Value) (p : Nat) (hp : X.length = p) : (((X ++ ([a, b, c, d, e] ++ Y)).set (p + 0) a').set (p + 1) b').set (p + 2) c' = X ++ ([a', b', c', d, e] ++ Y) := by
  subst hp
  rw [List.set_append_right _ _ (by omega), List.set_append_right _ _ (by omega), List.set_append_right _ _ (by omega)]
  simp
theorem at3 (X Y : List Value) (a b c d e : Value) (p : Nat) (hp : X.length = p) : (X ++ ([a, b, c, d, e] ++ Y))[p + 3]? = some d ∧ (X ++ ([a, b, c, d, e] ++ Y))[p + 4]? = some e := by
  subst hp
  constructor <;> rw [List.getElem?_append_right (by omega), Nat.add_sub_cancel_left] <;> rfl
theorem tin_mid (A B : List Tv) (t : Tv) : ((A ++ t :: B).flatMap tin).Perm (tin t ++ (A.flatMap tin ++ B.flatMap tin)) := by
  rw [List.flatMap_append, List.flatMap_cons]
  exact List.perm_append_comm_assoc _ _ _
theorem tcs_mid (A B : List Tv) (t : Tv) : (A ++ t :: B).flatMap tcs = A.flatMap tcs ++ (tcs t ++ B.flatMap tcs) := by
  rw [List.flatMap_append, List.flatMap_cons]
theorem markStr_at {w0 w : World} {F0 F : Fz} {L : List Ch} (h : Hp w0 F0 F L w) (i : Nat) {v : Value} {l : List ByteArray} {k : Int} (hi : L[i]? = some (ownS v l)) (hk : 0 ≤ k ∧ k ≤ 1125899906842624) (hn : l.length ≤ 1048576) :
    Calls Tryz.prog 54 #[v, .int .i64 k] w fun e w' => e = .returned (.int .i64 (k + l.length)) ∧ Hp w0 F0 F (L.set i (ownS v (mks k l.length))) w' := by
  obtain ⟨F1, hs1, hX, hb⟩ := h.lend1 i hi
  exact (markStringS_calls hX hk hn).mono fun e w' ⟨h1, h2⟩ => ⟨h1, hb _ _ h2⟩
/-- The plan's chunks. -/
def tsL (v : Value) (ts : List Tv) : List Ch := .own v 49 5 ts.length (ts.flatMap tcs) :: ts.flatMap tin
set_option maxHeartbeats 4000000 in
theorem markTargetS_calls {w0 w : World} {F0 F : Fz} {v : Value} {ts : List Tv} {k : Int} (h : Hp w0 F0 F (tsL v ts) w) (hk : 0 ≤ k ∧ k ≤ 1099511627776) (hn : ts.length ≤ 1048576) (hone : ∀ t ∈ ts, OneT t) :
    Calls Tryz.prog 32 #[v, .int .i64 k] w fun e w' => e = .returned (.int .i64 (k + totT ts)) ∧ Hp w0 F0 F (tsL v (mkTs k ts)) w' := by
  refine calls 51 Tryz.func32 rfl rfl rfl ?_
  refine W.seq (W.region rfl ?_)
  refine WL.p h Val.as ?_
  refine WL.nil ?_
  refine W.seq (W.seq (W.region rfl ?_))
  refine WL.p h Val.as ?_
  refine WL.nil ?_
  refine W.block ?_
  refine W.loop (fun m R w => ∃ i : Nat, m + i = ts.length ∧ Hp w0 F0 F (.own v 49 5 ts.length ((mkTs k (ts.take i) ++ ts.drop i).flatMap tcs) :: (mkTs k (ts.take i) ++ ts.drop i).flatMap tin) w ∧ R 0 = v ∧ R 1 = .int .i64 (k + totT (ts.take i)) ∧ R 5 = .int .i64 (i : Int)) ts.length ⟨0, by omega, h.cast (by simp [mkTs, tsL]), rfl, by show Value.int .i64 k = _; simp [totT], rfl⟩ (fun m R w hI => ?_)
  clear h
  obtain ⟨i, hm, h, h0, h1, h5⟩ := hI
  refine W.seq (W.seq (W.region rfl ?_))
  refine WL.p h Val.mv ?_
  refine WL.p h Val.mv ?_
  refine WL.p h (Val.len Tryz.underlying24 h0 (h.row 0 rfl).val) ?_
  refine WL.p h (Val.lt h5 rfl) ?_
  refine WL.dec (fun c1 => ?_) (fun c1 => ?_)
  · obtain ⟨t, ht⟩ : ∃ t, ts[i]? = some t := ⟨_, List.getElem?_eq_getElem (by omega)⟩
    have ho := hone t (List.mem_of_getElem? ht)
    have hb := totT_bd (ts.take i) fun t ht => hone t (List.mem_of_mem_take ht)
    have hbl : ((ts.take i).length : Int) ≤ 1048576 := by simp; omega
    obtain ⟨A, hA⟩ : ∃ A, mkTs k (ts.take i) = A := ⟨_, rfl⟩
    obtain ⟨B, hB⟩ : ∃ B, ts.drop (i + 1) = B := ⟨_, rfl⟩
    obtain ⟨K, hK⟩ : ∃ K, k + totT (ts.take i) = K := ⟨_, rfl⟩
    have hKb : 0 ≤ K ∧ K ≤ 1101611925504 := by omega
    have hAl : (A.flatMap tcs).length = i * 5 := by rw [flat_len tcs tcs_len, ← hA, mkTs_len, List.length_take]; omega
    have hA2 : mkTs k (ts.take (i + 1)) = A ++ [mkT K t] := by rw [take_snoc ht, mkTs_app, hA, hK]; rfl
    have hK2 : k + totT (ts.take (i + 1)) = K + wid t := by rw [take_snoc ht, totT_app, ← hK]; simp only [totT]; omega
    rw [drop_at ht, hA, hB] at h
    rw [hK] at h1
    have h := Hp.permA (tin_mid A B t) [_] h
    rw [tcs_mid] at h
    obtain ⟨F1, hs1, h, back⟩ := Hp.lend (A := [.own v 49 5 ts.length (A.flatMap tcs ++ (tcs t ++ B.flatMap tcs)), ownS t.2.1 t.1.ins, ownS t.2.2 t.1.outs]) (B := A.flatMap tin ++ B.flatMap tin) h
    have hxl : (A.flatMap tcs ++ (tcs t ++ B.flatMap tcs)).length = ts.length * 5 := (h.row 0 rfl).len
    have hl2 := ho.2
    refine WL.nil ?_
    refine W.condT rfl ?_
    refine W.skip ?_
    refine W.seq (W.block ?_)
    refine W.seq (W.region rfl ?_)
    refine WL.p h Val.mv ?_
    refine WL.p h Val.mv ?_
    refine WL.p h Val.mv ?_
    refine WL.call C79 (args := [.int .i64 K]) (congrArg (fun x => [x]) h1) ((markTextB_calls F1 w h.sub K (by omega)).mono ?_)
    rintro e w' ⟨rfl, hE⟩
    have h := h.call hE
    refine ⟨_, rfl, ?_⟩
    refine WL.p h (Val.ix (i := i) Tryz.underlying24 T49z h0 h5 ((h.row 0 rfl).slice (by omega)) (by omega)) ?_
    refine WL.p h (Val.fa O49_0z rfl) ?_
    refine WL.stO 0 (j := i * 5 + 0) (u := .string (mt K)) h rfl T9 rfl rfl rfl (by first | omega | (simp only [List.length_set]; omega)) (fun w h => ?_)
    refine WL.nil ?_
    refine W.seq (W.region rfl ?_)
    refine WL.p h Val.mv ?_
    refine WL.p h (Val.addi (c := K + 1) h1 rfl (by omega)) ?_
    refine WL.p h Val.as ?_
    refine WL.nil ?_
    refine W.seq (W.region rfl ?_)
    refine WL.p h Val.mv ?_
    refine WL.p h Val.mv ?_
    refine WL.p h Val.mv ?_
    refine WL.call C79 (args := [.int .i64 (K + 1)]) rfl ((markTextB_calls F1 w h.sub (K + 1) (by omega)).mono ?_)
    rintro e w' ⟨rfl, hE⟩
    have h := h.call hE
    refine ⟨_, rfl, ?_⟩
    refine WL.p h (Val.ix (i := i) Tryz.underlying24 T49z h0 h5 ((h.row 0 rfl).slice (by omega)) (by omega)) ?_
    refine WL.p h (Val.fa O49_1z rfl) ?_
    refine WL.stO 0 (j := i * 5 + 1) (u := .string (mt (K + 1))) h rfl T9 rfl rfl rfl (by first | omega | (simp only [List.length_set]; omega)) (fun w h => ?_)
    refine WL.nil ?_
    refine W.seq (W.region rfl ?_)
    refine WL.p h Val.mv ?_
    refine WL.p h (Val.addi (c := K + 2) rfl rfl (by omega)) ?_
    refine WL.p h Val.as ?_
    refine WL.nil ?_
    refine W.seq (W.region rfl ?_)
    refine WL.p h Val.mv ?_
    refine WL.p h Val.mv ?_
    refine WL.p h Val.mv ?_
    refine WL.call C79 (args := [.int .i64 (K + 2)]) rfl ((markTextB_calls F1 w h.sub (K + 2) (by omega)).mono ?_)
    rintro e w' ⟨rfl, hE⟩
    have h := h.call hE
    refine ⟨_, rfl, ?_⟩
    refine WL.p h (Val.ix (i := i) Tryz.underlying24 T49z h0 h5 ((h.row 0 rfl).slice (by omega)) (by omega)) ?_
    refine WL.p h (Val.fa O49_2z rfl) ?_
    refine WL.stO 0 (j := i * 5 + 2) (u := .string (mt (K + 2))) h rfl T9 rfl rfl rfl (by first | omega | (simp only [List.length_set]; omega)) (fun w h => ?_)
    refine WL.nil ?_
    refine W.seq (W.region rfl ?_)
    refine WL.p h Val.mv ?_
    refine WL.p h (Val.addi (c := K + 3) rfl rfl (by omega)) ?_
    refine WL.p h Val.as ?_
    refine WL.nil ?_
    have hset := set3 (A.flatMap tcs) (B.flatMap tcs) (.string t.1.name) (.string t.1.tool) (.string t.1.arg) t.2.1 t.2.2 (.string (mt K)) (.string (mt (K + 1))) (.string (mt (K + 2))) (i * 5) hAl
    have hat := at3 (A.flatMap tcs) (B.flatMap tcs) (.string (mt K)) (.string (mt (K + 1))) (.string (mt (K + 2))) t.2.1 t.2.2 (i * 5) hAl
    have h : Hp w0 F0 F1 [.own v 49 5 ts.length (A.flatMap tcs ++ ([.string (mt K), .string (mt (K + 1)), .string (mt (K + 2)), t.2.1, t.2.2] ++ B.flatMap tcs)), ownS t.2.1 t.1.ins, ownS t.2.2 t.1.outs] w := h.cast (by rw [← hset]; rfl)
    refine W.seq (W.region rfl ?_)
    refine WL.p h Val.mv ?_
    refine WL.p h Val.mv ?_
    refine WL.p h (Val.ix (i := i) Tryz.underlying24 T49z h0 h5 ((h.row 0 rfl).slice (by omega)) (by omega)) ?_
    refine WL.p h (Val.fa O49_3z rfl) ?_
    refine WL.p h (Val.ldOf 0 A24 rfl (p := i * 5) (j := 3) rfl hat.1) ?_
    refine WL.p h Val.mv ?_
    refine WL.call C54q (args := [t.2.1, .int .i64 (K + 3)]) rfl ((markStr_at h 1 rfl (by omega) (by omega)).mono ?_)
    rintro e w' ⟨rfl, h⟩
    have h : Hp w0 F0 F1 [.own v 49 5 ts.length (A.flatMap tcs ++ ([.string (mt K), .string (mt (K + 1)), .string (mt (K + 2)), t.2.1, t.2.2] ++ B.flatMap tcs)), ownS t.2.1 (mks (K + 3) t.1.ins.length), ownS t.2.2 t.1.outs] w' := h
    refine ⟨_, rfl, ?_⟩
    refine WL.p h Val.as ?_
    refine WL.nil ?_
    refine W.region rfl ?_
    refine WL.p h Val.mv ?_
    refine WL.p h Val.mv ?_
    refine WL.p h (Val.ix (i := i) Tryz.underlying24 T49z h0 h5 ((h.row 0 rfl).slice (by omega)) (by omega)) ?_
    refine WL.p h (Val.fa O49_4z rfl) ?_
    refine WL.p h (Val.ldOf 0 A24 rfl (p := i * 5) (j := 4) rfl hat.2) ?_
    refine WL.p h Val.mv ?_
    refine WL.call C54q (args := [t.2.2, .int .i64 (K + 3 + (t.1.ins.length : Int))]) rfl ((markStr_at h 2 rfl (by omega) (by omega)).mono ?_)
    rintro e w' ⟨rfl, h⟩
    have h : Hp w0 F0 F1 [.own v 49 5 ts.length (A.flatMap tcs ++ ([.string (mt K), .string (mt (K + 1)), .string (mt (K + 2)), t.2.1, t.2.2] ++ B.flatMap tcs)), ownS t.2.1 (mks (K + 3) t.1.ins.length), ownS t.2.2 (mks (K + 3 + (t.1.ins.length : Int)) t.1.outs.length)] w' := h
    refine ⟨_, rfl, ?_⟩
    refine WL.p h Val.as ?_
    refine WL.nil ?_
    have h := back _ _ h
    have h : Hp w0 F0 F (.own v 49 5 ts.length ((mkTs k (ts.take (i + 1)) ++ ts.drop (i + 1)).flatMap tcs) :: (mkTs k (ts.take (i + 1)) ++ ts.drop (i + 1)).flatMap tin) w' := by
      have e1 : mkTs k (ts.take (i + 1)) ++ ts.drop (i + 1) = A ++ mkT K t :: B := by rw [hA2, hB, List.append_assoc]; rfl
      rw [e1, tcs_mid]
      exact Hp.permA (tin_mid A B (mkT K t)).symm [_] h
    refine W.region rfl ?_
    refine WL.p h Val.mv ?_
    refine WL.p h (Val.addi (c := ((i + 1 : Nat) : Int)) h5 rfl (by omega)) ?_
    refine WL.p h Val.as ?_
    refine WL.nil ?_
    exact ⟨m - 1, by omega, i + 1, by omega, h, h0, by show Value.int .i64 _ = _; rw [hK2]; congr 1; simp only [wid]; omega, rfl⟩
  · have hi : i = ts.length := by omega
    rw [List.take_of_length_le (by omega), List.drop_eq_nil_of_le (by omega), List.append_nil] at h
    rw [List.take_of_length_le (by omega)] at h1
    refine WL.nil ?_
    refine W.condF rfl ?_
    refine W.exit ?_
    refine W.seq (W.region rfl ?_)
    refine WL.p h Val.mv ?_
    refine WL.p h Val.as ?_
    refine WL.nil ?_
    refine W.ret ?_
    exact fin1 rfl h1 ⟨rfl, h.cast (by rw [tsL, mkTs_len])⟩
theorem markPlan_calls {w0 w : World} {F0 F : Fz} {v : Value} {ts : List Tv} {k a b : Int} (h : Hp w0 F0 F (tsL v ts) w) (hk : 0 ≤ k ∧ k ≤ 1099511627776) (hn : ts.length ≤ 1048576) (hone : ∀ t ∈ ts, OneT t) :
    Calls Tryz.prog 11 #[.agg #[.int .i64 a, .int .i64 b, v], .int .i64 k] w fun e w' => e = .returned (.int .i64 (k + totT ts)) ∧ Hp w0 F0 F (tsL v (mkTs k ts)) w' := by
  refine calls 10 Tryz.func11 rfl rfl rfl ?_
  refine W.seq (W.region rfl ?_)
  refine WL.box h rfl (fun b2 w h => ?_)
  refine WL.p h Val.as ?_
  refine WL.nil ?_
  refine W.seq (W.region rfl ?_)
  refine WL.p h (Val.fa O26_2z rfl) ?_
  refine WL.p h (Val.ld (tsL v ts).length A24z (List.getElem?_concat_length) rfl rfl) ?_
  refine WL.p h Val.mv ?_
  obtain ⟨F1, hs1, hA, hback⟩ := h.lend
  refine WL.call C32q (args := [v, .int .i64 k]) rfl ((markTargetS_calls hA hk hn hone).mono ?_)
  rintro e w' ⟨rfl, hA⟩
  have h := (hback _ _ hA).left
  refine ⟨_, rfl, ?_⟩
  refine WL.p h Val.as ?_
  refine WL.nil ?_
  refine W.seq (W.region rfl ?_)
  refine WL.p h Val.mv ?_
  refine WL.p h Val.as ?_
  refine WL.nil ?_
  refine W.ret ?_
  exact fin1 rfl rfl ⟨rfl, h⟩
/-! ### Reading -/
theorem trow_of {F : Fz} {v : Value} {ts : List Tv} (h : ∀ c ∈ tsL v ts, c.fixed F) : FRow F v ts.length 5 (ts.flatMap tcs) ∧ TRow F (ts.map (·.1)) (ts.flatMap tcs) := by
  have h1 : FRow F v ts.length 5 (ts.flatMap tcs) := h _ (List.mem_cons_self ..)
  refine ⟨h1, by rw [flat_len tcs tcs_len, List.length_map], fun i g hg => ?_⟩
  rw [List.getElem?_map, Option.map_eq_some_iff] at hg
  obtain ⟨t, ht, rfl⟩ := hg
  have hm := List.mem_of_getElem? ht
  have h2 : FRow F t.2.1 t.1.ins.length 1 (rowS t.1.ins) := h (ownS t.2.1 t.1.ins) (List.mem_cons_of_mem _ (List.mem_flatMap.2 ⟨t, hm, by simp [tin]⟩))
  have h3 : FRow F t.2.2 t.1.outs.length 1 (rowS t.1.outs) := h (ownS t.2.2 t.1.outs) (List.mem_cons_of_mem _ (List.mem_flatMap.2 ⟨t, hm, by simp [tin]⟩))
  exact ⟨t.2.1, t.2.2, fun j u hu => flat_get tcs tcs_len ts i j t u ht hu, h2, h3⟩
set_option maxHeartbeats 4000000 in
theorem heldTargetS_calls (F : Fz) (w0 : World) (hF : Sub F (hv w0)) (v : Value) (ts : List Tv) (k : Int) (hr : FRow F v ts.length 5 ((mkTs k ts).flatMap tcs)) (hT : TRow F ((mkTs k ts).map (·.1)) ((mkTs k ts).flatMap tcs)) (hk : 0 ≤ k ∧ k ≤ 1099511627776) (hn : ts.length ≤ 1048576) (hone : ∀ t ∈ ts, OneT t) :
    Calls Tryz.prog 33 #[v, .int .i64 k] w0 fun e w' => e = .returned (.int .i64 (k + totT ts)) ∧ Ext F w0 F w' := by
  refine calls 61 Tryz.func33 rfl rfl rfl ?_
  have h := Hp.start hF
  refine W.seq (W.region rfl ?_)
  refine WL.p h Val.as ?_
  refine WL.nil ?_
  refine W.seq (W.seq (W.region rfl ?_))
  refine WL.p h Val.as ?_
  refine WL.nil ?_
  refine W.block ?_
  refine W.loop (fun m R w => ∃ i : Nat, m + i = ts.length ∧ Hp w0 F F [] w ∧ R 0 = v ∧ R 1 = .int .i64 (k + totT (ts.take i)) ∧ R 5 = .int .i64 (i : Int)) ts.length ⟨0, by omega, h, rfl, by show Value.int .i64 k = _; simp [totT], rfl⟩ (fun m R w hI => ?_)
  clear h
  obtain ⟨i, hm, h, h0, h1, h5⟩ := hI
  refine W.seq (W.seq (W.region rfl ?_))
  refine WL.p h Val.mv ?_
  refine WL.p h Val.mv ?_
  refine WL.p h (Val.len Tryz.underlying24 h0 hr.val) ?_
  refine WL.p h (Val.lt h5 rfl) ?_
  refine WL.dec (fun c1 => ?_) (fun c1 => ?_)
  · obtain ⟨t, ht⟩ : ∃ t, ts[i]? = some t := ⟨_, List.getElem?_eq_getElem (by omega)⟩
    have ho := hone t (List.mem_of_getElem? ht)
    have hb := totT_bd (ts.take i) fun t ht => hone t (List.mem_of_mem_take ht)
    have hbl : ((ts.take i).length : Int) ≤ 1048576 := by simp; omega
    have hget := mkTs_get k ht
    obtain ⟨K, hK⟩ : ∃ K, k + totT (ts.take i) = K := ⟨_, rfl⟩
    rw [hK] at hget h1
    have hKb : 0 ≤ K ∧ K ≤ 1101611925504 := by omega
    have hK2 : k + totT (ts.take (i + 1)) = K + wid t := by rw [take_snoc ht, totT_app, ← hK]; simp only [totT]; omega
    obtain ⟨si, so, hc, hri, hro⟩ := hT.get i (mkT K t).1 (by rw [List.getElem?_map, hget]; rfl)
    have hri : FRow F si t.1.ins.length 1 (rowS (mks (K + 3) t.1.ins.length)) := by
      have := hri
      simp only [mkT, mks_len] at this
      exact this
    have hro : FRow F so t.1.outs.length 1 (rowS (mks (K + 3 + (t.1.ins.length : Int)) t.1.outs.length)) := by
      have := hro
      simp only [mkT, mks_len] at this
      exact this
    have hl2 := ho.2
    refine WL.nil ?_
    refine W.condT rfl ?_
    refine W.skip ?_
    refine W.seq (W.block ?_)
    refine W.seq (W.seq (W.draw (fun w => Hp w0 F F [] w) [] 8 (by kernel_rfl) rfl rfl ?_))
    have hS := h.drewN 1
    refine WD.take 0 rfl (by kernel_rfl) (fun _ _ _ h => fin_panic h) hS Val.mv ?_
    refine WD.take 1 rfl (by kernel_rfl) (fun _ _ _ h => fin_panic h) hS Val.mv ?_
    refine WD.take 2 rfl (by kernel_rfl) (fun _ _ _ h => fin_panic h) hS (Val.ix (i := i) Tryz.underlying24 T49z h0 h5 (hr.slice (by omega)) (by omega)) ?_
    refine WD.take 3 rfl (by kernel_rfl) (fun _ _ _ h => fin_panic h) hS (Val.fa O49_0z rfl) ?_
    refine WD.take 4 rfl (by kernel_rfl) (fun _ _ _ h => fin_panic h) hS (Val.ldRf A9 hr (p := i * 5) (j := 0) rfl (hc 0 (.string (mt K)) rfl)) ?_
    refine WD.take 5 rfl (by kernel_rfl) (fun _ _ _ h => fin_panic h) hS Val.mv ?_
    refine WD.one 6 rfl (by kernel_rfl) ?_
    refine WL.call C79 (args := [.int .i64 K]) (congrArg (fun x => [x]) h1) ((markTextB_calls F _ hS.sub K (by omega)).mono ?_)
    rintro e w' ⟨rfl, hE⟩
    have hS := hS.call hE
    refine ⟨_, rfl, ?_⟩
    refine WL.nil ?_
    refine ⟨hS, ?_⟩
    refine WD.take 7 rfl (by kernel_rfl) (fun _ _ _ h => fin_panic h) hS (Val.sNe (a := mt K) (b := mt K) rfl rfl) ?_
    refine WD.nil (by kernel_rfl) ?_
    have h := hS
    refine W.condF (show Value.bool (decide (_ ≠ _)) = _ by simp) ?_
    refine W.skip ?_
    refine W.seq (W.region rfl ?_)
    refine WL.p h Val.mv ?_
    refine WL.p h (Val.addi (c := K + 1) h1 rfl (by omega)) ?_
    refine WL.p h Val.as ?_
    refine WL.nil ?_
    refine W.seq (W.seq (W.draw (fun w => Hp w0 F F [] w) [] 8 (by kernel_rfl) rfl rfl ?_))
    have hS := h.drewN 1
    refine WD.take 0 rfl (by kernel_rfl) (fun _ _ _ h => fin_panic h) hS Val.mv ?_
    refine WD.take 1 rfl (by kernel_rfl) (fun _ _ _ h => fin_panic h) hS Val.mv ?_
    refine WD.take 2 rfl (by kernel_rfl) (fun _ _ _ h => fin_panic h) hS (Val.ix (i := i) Tryz.underlying24 T49z h0 h5 (hr.slice (by omega)) (by omega)) ?_
    refine WD.take 3 rfl (by kernel_rfl) (fun _ _ _ h => fin_panic h) hS (Val.fa O49_1z rfl) ?_
    refine WD.take 4 rfl (by kernel_rfl) (fun _ _ _ h => fin_panic h) hS (Val.ldRf A9 hr (p := i * 5) (j := 1) rfl (hc 1 (.string (mt (K + 1))) rfl)) ?_
    refine WD.take 5 rfl (by kernel_rfl) (fun _ _ _ h => fin_panic h) hS Val.mv ?_
    refine WD.one 6 rfl (by kernel_rfl) ?_
    refine WL.call C79 (args := [.int .i64 (K + 1)]) rfl ((markTextB_calls F _ hS.sub (K + 1) (by omega)).mono ?_)
    rintro e w' ⟨rfl, hE⟩
    have hS := hS.call hE
    refine ⟨_, rfl, ?_⟩
    refine WL.nil ?_
    refine ⟨hS, ?_⟩
    refine WD.take 7 rfl (by kernel_rfl) (fun _ _ _ h => fin_panic h) hS (Val.sNe (a := mt (K + 1)) (b := mt (K + 1)) rfl rfl) ?_
    refine WD.nil (by kernel_rfl) ?_
    have h := hS
    refine W.condF (show Value.bool (decide (_ ≠ _)) = _ by simp) ?_
    refine W.skip ?_
    refine W.seq (W.region rfl ?_)
    refine WL.p h Val.mv ?_
    refine WL.p h (Val.addi (c := K + 2) rfl rfl (by omega)) ?_
    refine WL.p h Val.as ?_
    refine WL.nil ?_
    refine W.seq (W.seq (W.draw (fun w => Hp w0 F F [] w) [] 8 (by kernel_rfl) rfl rfl ?_))
    have hS := h.drewN 1
    refine WD.take 0 rfl (by kernel_rfl) (fun _ _ _ h => fin_panic h) hS Val.mv ?_
    refine WD.take 1 rfl (by kernel_rfl) (fun _ _ _ h => fin_panic h) hS Val.mv ?_
    refine WD.take 2 rfl (by kernel_rfl) (fun _ _ _ h => fin_panic h) hS (Val.ix (i := i) Tryz.underlying24 T49z h0 h5 (hr.slice (by omega)) (by omega)) ?_
    refine WD.take 3 rfl (by kernel_rfl) (fun _ _ _ h => fin_panic h) hS (Val.fa O49_2z rfl) ?_
    refine WD.take 4 rfl (by kernel_rfl) (fun _ _ _ h => fin_panic h) hS (Val.ldRf A9 hr (p := i * 5) (j := 2) rfl (hc 2 (.string (mt (K + 2))) rfl)) ?_
    refine WD.take 5 rfl (by kernel_rfl) (fun _ _ _ h => fin_panic h) hS Val.mv ?_
    refine WD.one 6 rfl (by kernel_rfl) ?_
    refine WL.call C79 (args := [.int .i64 (K + 2)]) rfl ((markTextB_calls F _ hS.sub (K + 2) (by omega)).mono ?_)
    rintro e w' ⟨rfl, hE⟩
    have hS := hS.call hE
    refine ⟨_, rfl, ?_⟩
    refine WL.nil ?_
    refine ⟨hS, ?_⟩
    refine WD.take 7 rfl (by kernel_rfl) (fun _ _ _ h => fin_panic h) hS (Val.sNe (a := mt (K + 2)) (b := mt (K + 2)) rfl rfl) ?_
    refine WD.nil (by kernel_rfl) ?_
    have h := hS
    refine W.condF (show Value.bool (decide (_ ≠ _)) = _ by simp) ?_
    refine W.skip ?_
    refine W.seq (W.region rfl ?_)
    refine WL.p h Val.mv ?_
    refine WL.p h (Val.addi (c := K + 3) rfl rfl (by omega)) ?_
    refine WL.p h Val.as ?_
    refine WL.nil ?_
    refine W.seq (W.region rfl ?_)
    refine WL.p h Val.mv ?_
    refine WL.p h Val.mv ?_
    refine WL.p h (Val.ix (i := i) Tryz.underlying24 T49z h0 h5 (hr.slice (by omega)) (by omega)) ?_
    refine WL.p h (Val.fa O49_3z rfl) ?_
    refine WL.p h (Val.ldRf A24 hr (p := i * 5) (j := 3) rfl (hc 3 si rfl)) ?_
    refine WL.p h Val.mv ?_
    refine WL.call C55q (args := [si, .int .i64 (K + 3)]) rfl ((heldStringS_calls F _ h.sub si _ (K + 3) hri (by omega) (by omega)).mono ?_)
    rintro e w' ⟨rfl, hE⟩
    have h := h.call hE
    refine ⟨_, rfl, ?_⟩
    refine WL.p h Val.as ?_
    refine WL.nil ?_
    refine W.seq (W.seq (W.region rfl ?_))
    refine WL.p h Val.mv ?_
    refine WL.p h (Val.lt (a := K + 3 + (t.1.ins.length : Int)) (b := 0) rfl rfl) ?_
    refine WL.dec (fun c2 => ?_) (fun c2 => ?_)
    · omega
    refine WL.nil ?_
    refine W.condF rfl ?_
    refine W.skip ?_
    refine W.seq (W.region rfl ?_)
    refine WL.p h Val.mv ?_
    refine WL.p h Val.mv ?_
    refine WL.p h (Val.ix (i := i) Tryz.underlying24 T49z h0 h5 (hr.slice (by omega)) (by omega)) ?_
    refine WL.p h (Val.fa O49_4z rfl) ?_
    refine WL.p h (Val.ldRf A24 hr (p := i * 5) (j := 4) rfl (hc 4 so rfl)) ?_
    refine WL.p h Val.mv ?_
    refine WL.call C55q (args := [so, .int .i64 (K + 3 + (t.1.ins.length : Int))]) rfl ((heldStringS_calls F _ h.sub so _ (K + 3 + (t.1.ins.length : Int)) hro (by omega) (by omega)).mono ?_)
    rintro e w' ⟨rfl, hE⟩
    have h := h.call hE
    refine ⟨_, rfl, ?_⟩
    refine WL.p h Val.as ?_
    refine WL.nil ?_
    refine W.seq (W.region rfl ?_)
    refine WL.p h Val.mv ?_
    refine WL.p h (Val.lt (a := K + 3 + (t.1.ins.length : Int) + (t.1.outs.length : Int)) (b := 0) rfl rfl) ?_
    refine WL.dec (fun c3 => ?_) (fun c3 => ?_)
    · omega
    refine WL.nil ?_
    refine W.condF rfl ?_
    refine W.skip ?_
    refine W.region rfl ?_
    refine WL.p h Val.mv ?_
    refine WL.p h (Val.addi (c := ((i + 1 : Nat) : Int)) h5 rfl (by omega)) ?_
    refine WL.p h Val.as ?_
    refine WL.nil ?_
    exact ⟨m - 1, by omega, i + 1, by omega, h, h0, by show Value.int .i64 _ = _; rw [hK2]; congr 1; simp only [wid]; omega, rfl⟩
  · have hi : i = ts.length := by omega
    rw [List.take_of_length_le (by omega)] at h1
    refine WL.nil ?_
    refine W.condF rfl ?_
    refine W.exit ?_
    refine W.seq (W.region rfl ?_)
    refine WL.p h Val.mv ?_
    refine WL.p h Val.as ?_
    refine WL.nil ?_
    refine W.ret ?_
    exact fin1 rfl h1 ⟨rfl, h.toExt⟩
theorem heldPlan_calls (F : Fz) (w0 : World) (hF : Sub F (hv w0)) (v : Value) (ts : List Tv) (k a b : Int) (hr : FRow F v ts.length 5 ((mkTs k ts).flatMap tcs)) (hT : TRow F ((mkTs k ts).map (·.1)) ((mkTs k ts).flatMap tcs)) (hk : 0 ≤ k ∧ k ≤ 1099511627776) (hn : ts.length ≤ 1048576) (hone : ∀ t ∈ ts, OneT t) :
    Calls Tryz.prog 12 #[.agg #[.int .i64 a, .int .i64 b, v], .int .i64 k] w0 fun e w' => e = .returned (.int .i64 (k + totT ts)) ∧ Ext F w0 F w' := by
  have hb := totT_bd ts hone
  refine calls 12 Tryz.func12 rfl rfl rfl ?_
  have h := Hp.start hF
  refine W.seq (W.region rfl ?_)
  refine WL.box h rfl (fun b2 w h => ?_)
  refine WL.p h Val.as ?_
  refine WL.nil ?_
  refine W.seq (W.region rfl ?_)
  refine WL.p h (Val.fa O26_2z rfl) ?_
  refine WL.p h (Val.ld 0 A24z rfl rfl rfl) ?_
  refine WL.p h Val.mv ?_
  refine WL.call C33q (args := [v, .int .i64 k]) rfl ((heldTargetS_calls F _ h.sub v ts k hr hT hk hn hone).mono ?_)
  rintro e w' ⟨rfl, hE⟩
  have h := h.call hE
  refine ⟨_, rfl, ?_⟩
  refine WL.p h Val.as ?_
  refine WL.nil ?_
  refine W.seq (W.seq (W.region rfl ?_))
  refine WL.p h Val.mv ?_
  refine WL.p h (Val.lt (a := k + totT ts) (b := 0) rfl rfl) ?_
  refine WL.dec (fun c1 => ?_) (fun c1 => ?_)
  · omega
  refine WL.nil ?_
  refine W.condF rfl ?_
  refine W.skip ?_
  refine W.seq (W.region rfl ?_)
  refine WL.p h Val.mv ?_
  refine WL.p h Val.as ?_
  refine WL.nil ?_
  refine W.ret ?_
  exact fin1 rfl rfl ⟨rfl, h.toExt⟩
end Go.Proofs.YtmiihhbgfijcmaaGreat.K

