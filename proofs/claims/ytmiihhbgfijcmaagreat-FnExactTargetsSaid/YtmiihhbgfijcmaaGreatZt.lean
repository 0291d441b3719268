/- Targets: the law's marks on plans, and their reading; what is fixed of many chunks. -/
import Derived.Test.YtmiihhbgfijcmaaGreatZs
namespace Go.Proofs.YtmiihhbgfijcmaaGreat.K
open Go Go.RowKit
set_option linter.unusedVariables false
set_option linter.unusedSimpArgs false
set_option maxRecDepth 20000
theorem markTextB_calls (F : Fz) (w0 : World) (hF : Sub F (hv w0)) (k : Int) (hk : k ≤ 1152921504606846976) : Calls Tryz.prog 30 #[.int .i64 k] w0 fun e w' => e = .returned (.string (mt k)) ∧ Ext F w0 F w' := by
  refine calls 20 Tryz.func30 rfl rfl rfl ?_
  have h := Hp.start hF
  refine W.seq (W.region rfl ?_)
  refine WL.p h Val.as ?_
  refine WL.nil ?_
  refine W.seq (W.seq (W.region rfl ?_))
  refine WL.p h Val.mv ?_
  refine WL.p h (Val.le rfl rfl) ?_
  refine WL.dec (fun c1 => ?_) (fun c1 => ?_)
  · refine WL.nil ?_
    refine W.condT rfl ?_
    refine W.seq (W.region rfl ?_)
    refine WL.p h Val.as ?_
    refine WL.nil ?_
    refine W.ret ?_
    exact fin1 (v := .string ⟨#[109, 48]⟩) rfl rfl ⟨by rw [mt, if_pos c1], h.toExt⟩
  refine WL.nil ?_
  refine W.condF rfl ?_
  refine W.skip ?_
  refine W.seq (W.region rfl ?_)
  refine WL.p h Val.as ?_
  refine WL.nil ?_
  refine W.seq (W.block ?_)
  refine W.loop (mtI w0 F k) k.toNat ?_ (fun m R w hI => ?_)
  · exact ⟨⟨#[]⟩, h, by show Value.int .i64 k = _; congr 1; omega, rfl, Nat.le_of_eq (Nat.zero_add _), rfl⟩
  clear h
  obtain ⟨s, h, h0, h3, hsz, hmt⟩ := hI
  refine W.seq (W.seq (W.region rfl ?_))
  refine WL.p h Val.mv ?_
  refine WL.p h (Val.gt h0 rfl) ?_
  refine WL.dec (fun c2 => ?_) (fun c2 => ?_)
  · refine WL.nil ?_
    refine W.condT rfl ?_
    refine W.skip ?_
    refine W.block ?_
    have hmod : ((m : Int)).tmod 10 = ((m % 10 : Nat) : Int) := by rw [Int.tmod_eq_emod_of_nonneg (by omega)]; omega
    refine W.seq (W.region rfl ?_)
    refine WL.p h Val.mv ?_
    refine WL.p h (Val.rem h0 rfl (by decide)) ?_
    refine WL.p h (Val.addi (c := 48 + ((m % 10 : Nat) : Int)) rfl rfl (by rw [hmod]; omega)) ?_
    refine WL.p h (Val.cvI (k' := .u8) (a := 48 + ((m % 10 : Nat) : Int)) (by kernel_rfl) (by kernel_rfl) (by kernel_rfl) rfl) ?_
    refine WL.bs1 h Tryz.underlying111 T5 (by decide) (cs := [.int .u8 (digit m)]) rfl rfl (fun b w h => ?_)
    refine WL.p h (Val.cvB 0 (a := digit m) Tryz.underlying111 Tryz.underlying5 Tryz.underlying9 rfl rfl) ?_
    refine WL.p h Val.mv ?_
    refine WL.p h (Val.sAdd rfl h3 (by rw [son_size]; omega)) ?_
    refine WL.p h Val.as ?_
    refine WL.nil ?_
    refine W.region rfl ?_
    refine WL.p h Val.mv ?_
    refine WL.p h (Val.quoi (c := ((m / 10 : Nat) : Int)) h0 rfl (by decide) (by rw [Int.tdiv_eq_ediv_of_nonneg (by omega)]; omega)) ?_
    refine WL.p h Val.as ?_
    refine WL.nil ?_
    refine ⟨m / 10, by omega, strOfNums [digit m] ++ s, h.keep 0, rfl, rfl, ?_, ?_⟩
    · rw [ByteArray.size_append, son_size]; omega
    · rw [← hmt]
      conv => rhs; rw [mtD, if_neg (by omega)]
  · refine WL.nil ?_
    refine W.condF rfl ?_
    refine W.exit ?_
    have hm : m = 0 := by omega
    subst hm
    rw [mtD, if_pos rfl] at hmt
    refine W.seq (W.region rfl ?_)
    refine WL.p h Val.mv ?_
    refine WL.p h (Val.sAdd rfl h3 (by show 1 + s.size ≤ _; omega)) ?_
    refine WL.p h Val.as ?_
    refine WL.nil ?_
    refine W.ret ?_
    refine fin1 (v := .string (⟨#[109]⟩ ++ s)) rfl rfl ⟨?_, h.toExt⟩
    rw [mt, if_neg c1, hmt]

theorem markAtomB_calls {w0 w : World} {F0 F : Fz} {b n c : Nat} {cs : List Value} {k : Int} (h : Hp w0 F0 F [.box b cs 78] w) (hc : n ≤ c) (hl : 4 * n ≤ cs.length) (hk : 0 ≤ k ∧ k ≤ 1125899906842624) (hn : n ≤ 1048576) :
    Calls Tryz.prog 31 #[.slice (some ⟨b, 0, none⟩) n c, .int .i64 k] w fun e w' => e = .returned (.int .i64 (k + 4 * n)) ∧ Hp w0 F0 F [.box b (mkC k n cs) 78] w' := by
  refine calls 42 Tryz.func31 rfl rfl rfl ?_
  refine W.seq (W.region rfl ?_)
  refine WL.p h Val.as ?_
  refine WL.nil ?_
  refine W.seq (W.seq (W.region rfl ?_))
  refine WL.p h Val.as ?_
  refine WL.nil ?_
  refine W.block ?_
  refine W.loop (maI w0 F0 F b n c cs k) n ?_ (fun m R w hI => ?_)
  · exact ⟨0, by omega, h.cast (by simp [mkC, marks, rowA]), rfl, by show Value.int .i64 k = _; simp, rfl⟩
  clear h
  obtain ⟨i, hm, h, h0, h1, h5⟩ := hI
  refine W.seq (W.seq (W.region rfl ?_))
  refine WL.p h Val.mv ?_
  refine WL.p h Val.mv ?_
  refine WL.p h (Val.len Tryz.underlying43 h0 ⟨_, _, rfl, hc⟩) ?_
  refine WL.p h (Val.lt h5 rfl) ?_
  refine WL.dec (fun c1 => ?_) (fun c1 => ?_)
  · have hlt : i < n := by omega
    have hcl := mkC_len k i cs (by omega)
    refine WL.nil ?_
    refine W.condT rfl ?_
    refine W.skip ?_
    refine W.seq (W.block ?_)
    refine W.seq (W.region rfl ?_)
    refine WL.p h Val.mv ?_
    refine WL.p h Val.mv ?_
    refine WL.p h Val.mv ?_
    refine WL.p h (Val.ix Tryz.underlying43 T79 h0 h5 ⟨_, rfl⟩ hlt) ?_
    refine WL.p h (Val.fa O79_0 rfl) ?_
    refine WL.st 0 (v := .int .i64 (k + 4 * i)) h rfl T3 rfl h1 rfl (by simp [soff]; omega) (fun w h => ?_)
    refine WL.nil ?_
    refine W.seq (W.region rfl ?_)
    refine WL.p h Val.mv ?_
    refine WL.p h (Val.addi (c := k + 4 * i + 1) h1 rfl (by omega)) ?_
    refine WL.p h Val.as ?_
    refine WL.nil ?_
    refine W.seq (W.region rfl ?_)
    refine WL.p h Val.mv ?_
    refine WL.p h Val.mv ?_
    refine WL.p h Val.mv ?_
    refine WL.p h (Val.ix Tryz.underlying43 T79 h0 h5 ⟨_, rfl⟩ hlt) ?_
    refine WL.p h (Val.fa O79_1 rfl) ?_
    refine WL.st 0 (v := .int .i64 (k + 4 * i + 1)) h rfl T2 rfl rfl rfl (by simp [soff]; omega) (fun w h => ?_)
    refine WL.nil ?_
    refine W.seq (W.region rfl ?_)
    refine WL.p h Val.mv ?_
    refine WL.p h (Val.addi (c := k + 4 * i + 2) rfl rfl (by omega)) ?_
    refine WL.p h Val.as ?_
    refine WL.nil ?_
    refine W.seq (W.region rfl ?_)
    refine WL.p h Val.mv ?_
    refine WL.p h Val.mv ?_
    refine WL.p h Val.mv ?_
    refine WL.call C79 (args := [.int .i64 (k + 4 * i + 2)]) rfl ((markTextB_calls F w h.sub (k + 4 * i + 2) (by omega)).mono ?_)
    rintro e w' ⟨rfl, hE⟩
    have h := h.call hE
    refine ⟨_, rfl, ?_⟩
    refine WL.p h (Val.ix Tryz.underlying43 T79 h0 h5 ⟨_, rfl⟩ hlt) ?_
    refine WL.p h (Val.fa O79_2 rfl) ?_
    refine WL.st 0 (v := .string (mt (k + 4 * i + 2))) h rfl T9 rfl rfl rfl (by simp [soff]; omega) (fun w h => ?_)
    refine WL.nil ?_
    refine W.seq (W.region rfl ?_)
    refine WL.p h Val.mv ?_
    refine WL.p h (Val.addi (c := k + 4 * i + 3) rfl rfl (by omega)) ?_
    refine WL.p h Val.as ?_
    refine WL.nil ?_
    refine W.seq (W.region rfl ?_)
    refine WL.p h Val.mv ?_
    refine WL.p h Val.mv ?_
    refine WL.p h Val.mv ?_
    refine WL.p h (Val.ix Tryz.underlying43 T79 h0 h5 ⟨_, rfl⟩ hlt) ?_
    refine WL.p h (Val.fa O79_3 rfl) ?_
    refine WL.st 0 (v := .int .i64 (k + 4 * i + 3)) h rfl T3 rfl rfl rfl (by simp [soff]; omega) (fun w h => ?_)
    refine WL.nil ?_
    refine W.region rfl ?_
    refine WL.p h Val.mv ?_
    refine WL.p h (Val.addi (c := k + 4 * i + 4) rfl rfl (by omega)) ?_
    refine WL.p h Val.as ?_
    refine WL.nil ?_
    refine W.region rfl ?_
    refine WL.p h Val.mv ?_
    refine WL.p h (Val.addi (c := ((i + 1 : Nat) : Int)) h5 rfl (by omega)) ?_
    refine WL.p h Val.as ?_
    refine WL.nil ?_
    refine ⟨m - 1, by omega, i + 1, by omega, h.cast ?_, h0, by show Value.int .i64 (k + 4 * i + 4) = _; congr 1; omega, rfl⟩
    have := mkC_step k i cs (by omega)
    simp only [soff, Nat.zero_add, Nat.add_zero, List.set_cons_zero, Nat.mul_comm i 4]
    rw [this]
  · have hi : i = n := by omega
    subst hi
    refine WL.nil ?_
    refine W.condF rfl ?_
    refine W.exit ?_
    refine W.seq (W.region rfl ?_)
    refine WL.p h Val.mv ?_
    refine WL.p h Val.as ?_
    refine WL.nil ?_
    refine W.ret ?_
    exact fin1 rfl h1 ⟨rfl, h⟩
/-! ### What is fixed of chunks -/
def Ch.fixed (F : Fz) : Ch → Prop
  | .box b cs T => F b = some (.cells cs.toArray T (0, 0))
  | .own v T size n xs => FRow F v n size xs
  | .dead => True
  | .obj b o => F b = some o
theorem Ch.fixed_mono {F G : Fz} (hs : Sub F G) {c : Ch} (h : c.fixed F) : c.fixed G := by
  cases c with
  | box b cs T => exact hs _ _ h
  | own v T size n xs => exact FRow.mono h hs
  | dead => trivial
  | obj b o => exact hs _ _ h
theorem Ch.fixed_of {w : World} {F : Fz} {c : Ch} (h : c.holds w) (hF : ∀ b, c.blk = some b → F b = w.heap[b]?) : c.fixed F := by
  cases c with
  | box b cs T => exact (hF b rfl).trans h
  | own v T size n xs => exact own_row h hF
  | dead => trivial
  | obj b o => exact (hF b rfl).trans h
theorem Ch.fixed_w {w : World} {c : Ch} (h : c.holds w) : c.fixed (hv w) := Ch.fixed_of h fun _ _ => rfl
section
variable {w0 w w' : World} {F0 F : Fz} {L : List Ch}
theorem Hp.mem (h : Hp w0 F0 F L w) {c : Ch} (hc : c ∈ L) : c.holds w := by
  obtain ⟨i, hi⟩ := List.mem_iff_getElem?.1 hc
  exact h.holds i c hi
theorem Hp.fixAll (h : Hp w0 F0 F L w) : ∀ c ∈ L, c.fixed (hv w) := fun c hc => Ch.fixed_w (h.mem hc)
/-- Many chunks are fixed. -/
theorem Hp.freezeL (A : List Ch) : ∀ (B : List Ch) (F : Fz), Hp w0 F0 F (A ++ B) w → ∃ F', Sub F F' ∧ Hp w0 F0 F' A w ∧ ∀ c ∈ B, c.fixed F'
  | [], F, h => ⟨F, Sub.refl _, by simpa using h, by simp⟩
  | c :: B, F, h => by
    have hi : (A ++ c :: B)[A.length]? = some c := by simp
    obtain ⟨F1, h1, h2, h3⟩ := h.freeze A.length hi
    have hc : c.fixed F1 := Ch.fixed_of (h.holds _ c hi) h3
    have h4 : Hp w0 F0 F1 (A ++ B) w := by
      have e : (A ++ c :: B).set A.length .dead = A ++ .dead :: B := by
        rw [List.set_append_right _ _ (Nat.le_refl _), Nat.sub_self]; rfl
      rw [e] at h2
      have h5 := Hp.perm h2 (List.perm_middle (a := Ch.dead) (l₁ := A) (l₂ := B))
      exact Hp.right (A := [.dead]) h5
    obtain ⟨F2, g1, g2, g3⟩ := Hp.freezeL A B F1 h4
    refine ⟨F2, h1.trans g1, g2, fun x hx => ?_⟩
    rcases List.mem_cons.1 hx with rfl | hx
    · exact Ch.fixed_mono g1 hc
    · exact g3 x hx
end
/-! ### Stores into a slice of the call's own -/
theorem Ch.blk_own {v : Value} {T size n : Nat} {xs : List Value} : (Ch.own v T size n xs).blk = v.ownBlock := rfl
theorem own_set {w : World} {v u : Value} {T size n j : Nat} {xs : List Value} (h : w.ownsRow 0 T size v n xs) (hj : j < xs.length) : (w.setCell ⟨sblk v, soff v + j, none⟩ u).ownsRow 0 T size v n (xs.set j u) ∧ v.ownBlock = some (sblk v) ∧ w.cell? ⟨sblk v, soff v + j, none⟩ = some xs[j] ∧ w.frozen? ⟨sblk v, soff v + j, none⟩ = false := by
  obtain ⟨h1, h2⟩ := h
  rcases h2 with ⟨rfl, rfl⟩ | ⟨g, cap, cur, rfl, hg, hh, hn, hm, hcs, ht⟩
  · rw [h1] at hj; omega
  · have hget : cur.toList[j]? = some xs[j] := by
      have : (cur.toList.take (n * size))[j]? = some xs[j] := by rw [ht]; exact List.getElem?_eq_getElem hj
      rw [List.getElem?_take] at this
      split at this
      · exact this
      · cases this
    have hlt : j < cur.size := by
      have := (List.getElem?_eq_some_iff.1 hget).1
      simpa using this
    refine ⟨⟨by simpa using h1, .inr ⟨g, cap, cur.setIfInBounds j u, rfl, hg, ?_, hn, hm, by simpa using hcs, ?_⟩⟩, by simp [Value.ownBlock, sblk], ?_, ?_⟩
    · simp only [World.setCell, sblk, soff, Nat.zero_add, Array.getElem?_modify, if_true, hh, Option.map_some]
      simp
    · rw [Array.toList_setIfInBounds, List.take_set, ht]
    · simp only [World.cell?, sblk, soff, Nat.zero_add, hh]
      simpa using hget
    · simp [World.frozen?, sblk, hh]
section
variable {P : Program} {R : Regs} {w0 : World} {F0 F : Fz} {L : List Ch} {d : Option Nat} {ty : TypeId} {pos : String} {af : Array Edge} {g : Option (Nat × Bool)}
variable {n : Nat} {ops : Array Oper} {Q : Post} {w : World} {rest : List Oper}
/-- One cell of a slice of the call's own is stored. -/
theorem WL.stO (i : Nat) {T t size nn j : Nat} {bytes : Nat} {z v u : Value} {x y : Operand} {xs : List Value} (h : Hp w0 F0 F L w) (hi : L[i]? = some (.own v T size nn xs)) (hT : TI P t z 1 bytes) (hx : ev R x = .pointer (some ⟨sblk v, soff v + j, none⟩)) (hy : ev R y = u) (h1 : u.oneCell' = true) (hj : j < xs.length)
    (k : ∀ w', Hp w0 F0 F (L.set i (.own v T size nn (xs.set j u))) w' → WL P n ops Q rest (updO R d undef) w') (hw : wantB ops R g = true := by rfl) : WL P n ops Q (⟨d, .store t x y, ty, pos, af, g⟩ :: rest) R w := by
  obtain ⟨k1, k2, hc, hf⟩ := own_set (u := u) (h.holds i _ hi) hj
  have hp : Hp w0 F0 F (L.set i (.own v T size nn (xs.set j u))) (w.setCell ⟨sblk v, soff v + j, none⟩ u) :=
    h.change i _ hi rfl rfl rfl (by simp [World.setCell]) (fun k hk hne => Below.heap_setCell _ _ _ _ (fun e => hne (by rw [e]; exact k2))) k1 (fun b' hb' => .inl hb')
  refine WL.unit (w' := w.setCell ⟨sblk v, soff v + j, none⟩ u) hw ?_ (k _ hp)
  have hcells : u.cells = #[u] := cells1 h1
  have hrun : (storeVar t ⟨sblk v, soff v + j, none⟩ u).run P w = .ok () (w.setCell ⟨sblk v, soff v + j, none⟩ u) := by
    simp only [storeVar, hcells, Sem.run_bind, hT.sizeOf w, Result.andThen_ok, storeCells, Addr.add_zero']
    simp [run_store P w ⟨sblk v, soff v + j, none⟩ u .plain h1, hc, hf, storeCells]
  simp only [execOp, Instr.storeAt, Instr.sureAddr, hx, hy, Sem.run_bind, Sem.run_pure, Result.andThen_ok, hrun]
end
/-! ### Lists of marks -/
def mks (k : Int) (n : Nat) : List ByteArray := (List.range n).map fun (i : Nat) => mt (k + (i : Int))
theorem mks_len (k : Int) (n : Nat) : (mks k n).length = n := by simp [mks]
theorem mks_get {k : Int} {n i : Nat} (h : i < n) : (mks k n)[i]? = some (mt (k + (i : Int))) := by simp [mks, h]
theorem mks_succ (k : Int) (n : Nat) : mks k (n + 1) = mks k n ++ [mt (k + (n : Int))] := by simp [mks, List.range_succ]
def mkR (k : Int) (i : Nat) (l : List ByteArray) : List ByteArray := mks k i ++ l.drop i
theorem mkR_len (k : Int) (i : Nat) (l : List ByteArray) (h : i ≤ l.length) : (mkR k i l).length = l.length := by
  rw [mkR, List.length_append, mks_len, List.length_drop]; omega
theorem mkR_step (k : Int) (i : Nat) (l : List ByteArray) (h : i < l.length) : (rowS (mkR k i l)).set i (.string (mt (k + (i : Int)))) = rowS (mkR k (i + 1) l) := by
  rw [mkR, mkR, mks_succ, rowS, rowS, List.drop_eq_getElem_cons h]
  simp only [List.map_append, List.map_cons, List.append_assoc]
  rw [List.set_append_right _ _ (by simp [mks_len])]
  simp [mks_len]
theorem markStringS_calls {w0 w : World} {F0 F : Fz} {v : Value} {l : List ByteArray} {k : Int} (h : Hp w0 F0 F [ownS v l] w) (hk : 0 ≤ k ∧ k ≤ 1125899906842624) (hn : l.length ≤ 1048576) :
    Calls Tryz.prog 54 #[v, .int .i64 k] w fun e w' => e = .returned (.int .i64 (k + l.length)) ∧ Hp w0 F0 F [ownS v (mks k l.length)] w' := by
  have hown := h.own1 0 rfl
  refine calls 20 Tryz.func54 rfl rfl rfl ?_
  refine W.seq (W.region rfl ?_)
  refine WL.p h Val.as ?_
  refine WL.nil ?_
  refine W.seq (W.seq (W.region rfl ?_))
  refine WL.p h Val.as ?_
  refine WL.nil ?_
  refine W.block ?_
  refine W.loop (fun m R w => ∃ i : Nat, m + i = l.length ∧ Hp w0 F0 F [.own v 9 1 l.length (rowS (mkR k i l))] w ∧ R 0 = v ∧ R 1 = .int .i64 (k + (i : Int)) ∧ R 5 = .int .i64 (i : Int)) l.length ⟨0, by omega, h.cast (by simp [mkR, mks, ownS]), rfl, by show Value.int .i64 k = _; simp, rfl⟩ (fun m R w hI => ?_)
  clear h
  obtain ⟨i, hm, h, h0, h1, h5⟩ := hI
  refine W.seq (W.seq (W.region rfl ?_))
  refine WL.p h Val.mv ?_
  refine WL.p h Val.mv ?_
  refine WL.p h (Val.len Tryz.underlying41 h0 (h.row 0 rfl).val) ?_
  refine WL.p h (Val.lt h5 rfl) ?_
  refine WL.dec (fun c1 => ?_) (fun c1 => ?_)
  · refine WL.nil ?_
    refine W.condT rfl ?_
    refine W.skip ?_
    refine W.seq (W.block ?_)
    refine W.seq (W.region rfl ?_)
    refine WL.p h Val.mv ?_
    refine WL.p h Val.mv ?_
    refine WL.p h Val.mv ?_
    refine WL.call C79 (args := [.int .i64 (k + (i : Int))]) (congrArg (fun x => [x]) h1) ((markTextB_calls F w h.sub (k + (i : Int)) (by omega)).mono ?_)
    rintro e w' ⟨rfl, hE⟩
    have h := h.call hE
    refine ⟨_, rfl, ?_⟩
    refine WL.p h (Val.ix (i := i) Tryz.underlying41 T9 h0 h5 ((h.row 0 rfl).slice (by omega)) (by omega)) ?_
    refine WL.stO 0 (j := i * 1) (u := .string (mt (k + (i : Int)))) h rfl T9 rfl rfl rfl (by rw [rowS_len, mkR_len _ _ _ (by omega)]; omega) (fun w h => ?_)
    refine WL.nil ?_
    have h : Hp w0 F0 F [.own v 9 1 l.length (rowS (mkR k (i + 1) l))] w := h.cast (by rw [Nat.mul_one, mkR_step k i l (by omega)]; rfl)
    refine W.region rfl ?_
    refine WL.p h Val.mv ?_
    refine WL.p h (Val.addi (c := k + ((i + 1 : Nat) : Int)) h1 rfl (by omega)) ?_
    refine WL.p h Val.as ?_
    refine WL.nil ?_
    refine W.region rfl ?_
    refine WL.p h Val.mv ?_
    refine WL.p h (Val.addi (c := ((i + 1 : Nat) : Int)) h5 rfl (by omega)) ?_
    refine WL.p h Val.as ?_
    refine WL.nil ?_
    exact ⟨m - 1, by omega, i + 1, by omega, h, h0, rfl, rfl⟩
  · have hi : i = l.length := by omega
    subst hi
    have e : mkR k l.length l = mks k l.length := by rw [mkR, List.drop_eq_nil_of_le (Nat.le_refl _), List.append_nil]
    rw [e] at h
    refine WL.nil ?_
    refine W.condF rfl ?_
    refine W.exit ?_
    refine W.seq (W.region rfl ?_)
    refine WL.p h Val.mv ?_
    refine WL.p h Val.as ?_
    refine WL.nil ?_
    refine W.ret ?_
    exact fin1 rfl h1 ⟨rfl, h.cast (by rw [ownS, mks_len])⟩
theorem heldStringS_calls (F : Fz) (w0 : World) (hF : Sub F (hv w0)) (v : Value) (n : Nat) (k : Int) (hr : FRow F v n 1 (rowS (mks k n))) (hk : 0 ≤ k ∧ k ≤ 1125899906842624) (hn : n ≤ 1048576) :
    Calls Tryz.prog 55 #[v, .int .i64 k] w0 fun e w' => e = .returned (.int .i64 (k + n)) ∧ Ext F w0 F w' := by
  refine calls 22 Tryz.func55 rfl rfl rfl ?_
  have h := Hp.start hF
  refine W.seq (W.region rfl ?_)
  refine WL.p h Val.as ?_
  refine WL.nil ?_
  refine W.seq (W.seq (W.region rfl ?_))
  refine WL.p h Val.as ?_
  refine WL.nil ?_
  refine W.block ?_
  refine W.loop (fun m R w => ∃ i : Nat, m + i = n ∧ Hp w0 F F [] w ∧ R 0 = v ∧ R 1 = .int .i64 (k + (i : Int)) ∧ R 5 = .int .i64 (i : Int)) n ⟨0, by omega, h, rfl, by show Value.int .i64 k = _; simp, rfl⟩ (fun m R w hI => ?_)
  clear h
  obtain ⟨i, hm, h, h0, h1, h5⟩ := hI
  refine W.seq (W.seq (W.region rfl ?_))
  refine WL.p h Val.mv ?_
  refine WL.p h Val.mv ?_
  refine WL.p h (Val.len Tryz.underlying41 h0 hr.val) ?_
  refine WL.p h (Val.lt h5 rfl) ?_
  refine WL.dec (fun c1 => ?_) (fun c1 => ?_)
  · have hg := mks_get (k := k) (show i < n by omega)
    refine WL.nil ?_
    refine W.condT rfl ?_
    refine W.skip ?_
    refine W.seq (W.block ?_)
    refine W.seq (W.seq (W.draw (fun w => Hp w0 F F [] w) [] 7 (by kernel_rfl) rfl rfl ?_))
    have hS := h.drewN 1
    refine WD.take 0 rfl (by kernel_rfl) (fun _ _ _ h => fin_panic h) hS Val.mv ?_
    refine WD.take 1 rfl (by kernel_rfl) (fun _ _ _ h => fin_panic h) hS Val.mv ?_
    refine WD.take 2 rfl (by kernel_rfl) (fun _ _ _ h => fin_panic h) hS (Val.ix (i := i) Tryz.underlying41 T9 h0 h5 (hr.slice (by omega)) (by omega)) ?_
    refine WD.take 3 rfl (by kernel_rfl) (fun _ _ _ h => fin_panic h) hS (Val.ldR A9 hr rfl (rowS_get hg)) ?_
    refine WD.take 4 rfl (by kernel_rfl) (fun _ _ _ h => fin_panic h) hS Val.mv ?_
    refine WD.one 5 rfl (by kernel_rfl) ?_
    refine WL.call C79 (args := [.int .i64 (k + (i : Int))]) (congrArg (fun x => [x]) h1) ((markTextB_calls F _ hS.sub (k + (i : Int)) (by omega)).mono ?_)
    rintro e w' ⟨rfl, hE⟩
    have hS := hS.call hE
    refine ⟨_, rfl, ?_⟩
    refine WL.nil ?_
    refine ⟨hS, ?_⟩
    refine WD.take 6 rfl (by kernel_rfl) (fun _ _ _ h => fin_panic h) hS (Val.sNe (a := mt (k + (i : Int))) (b := mt (k + (i : Int))) rfl rfl) ?_
    refine WD.nil (by kernel_rfl) ?_
    have h := hS
    refine W.condF (show Value.bool (decide (_ ≠ _)) = _ by simp) ?_
    refine W.skip ?_
    refine W.region rfl ?_
    refine WL.p h Val.mv ?_
    refine WL.p h (Val.addi (c := k + ((i + 1 : Nat) : Int)) h1 rfl (by omega)) ?_
    refine WL.p h Val.as ?_
    refine WL.nil ?_
    refine W.region rfl ?_
    refine WL.p h Val.mv ?_
    refine WL.p h (Val.addi (c := ((i + 1 : Nat) : Int)) h5 rfl (by omega)) ?_
    refine WL.p h Val.as ?_
    refine WL.nil ?_
    exact ⟨m - 1, by omega, i + 1, by omega, h, h0, rfl, rfl⟩
  · have hi : i = n := by omega
    subst hi
    refine WL.nil ?_
    refine W.condF rfl ?_
    refine W.exit ?_
    refine W.seq (W.region rfl ?_)
    refine WL.p h Val.mv ?_
    refine WL.p h Val.as ?_
    refine WL.nil ?_
    refine W.ret ?_
    exact fin1 rfl h1 ⟨rfl, h.toExt⟩
end Go.Proofs.YtmiihhbgfijcmaaGreat.K

