/- Targets: the library's sort of the targets by name. -/
import Derived.Test.YtmiihhbgfijcmaaGreatZn
import Derived.Test.YtmiihhbgfijcmaaGreatSg
namespace Go.Proofs.YtmiihhbgfijcmaaGreat.K
open Go Go.RowKit
open Go.Sort (SWO PermIn SortedIn grow HoldsK putRowK flatK)
open Go.Proofs (LessReadsK sortWorldK)
set_option linter.unusedVariables false
set_option linter.unusedSimpArgs false
set_option maxRecDepth 20000
/-- A target and its two slices. -/
abbrev Tv := Tg × Value × Value
instance : Inhabited Tg := ⟨tg0⟩
def tcs (t : Tv) : List Value := tgc t.1 t.2.1 t.2.2
def tin (t : Tv) : List Ch := [ownS t.2.1 t.1.ins, ownS t.2.2 t.1.outs]
def oneV (v : Value) : Value := if v.oneCell' = true then v else .slice none 0 0
theorem oneV_eq {v : Value} (h : v.oneCell' = true) : oneV v = v := by rw [oneV, if_pos h]
theorem oneV_one (v : Value) : (oneV v).oneCell' = true := by
  unfold oneV
  split
  · assumption
  · rfl
def encT (t : Tv) : List Value := tgc t.1 (oneV t.2.1) (oneV t.2.2)
def OneT (t : Tv) : Prop := (t.2.1.oneCell' = true ∧ t.2.2.oneCell' = true) ∧ t.1.ins.length ≤ 1000 ∧ t.1.outs.length ≤ 1000
theorem encT_eq {t : Tv} (h : OneT t) : encT t = tcs t := by rw [encT, oneV_eq h.1.1, oneV_eq h.1.2]; rfl
theorem encT_flat {ts : List Tv} (h : ∀ t ∈ ts, OneT t) : ts.flatMap encT = ts.flatMap tcs := by
  induction ts with
  | nil => rfl
  | cons t ts ih => rw [List.flatMap_cons, List.flatMap_cons, encT_eq (h t (by simp)), ih fun t ht => h t (by simp [ht])]
theorem tcs_len (t : Tv) : (tcs t).length = 5 := rfl
def ltT (a b : Tv) : Bool := Op.bytesLess a.1.name.toList b.1.name.toList
theorem ltT_iff (a b : Tv) : ltT a b = true ↔ ltN a.1.name b.1.name := Iff.rfl
theorem ltT_no (a b : Tv) : ltT a b = false ↔ ¬ ltN a.1.name b.1.name := by rw [← ltT_iff]; simp
theorem swo_ltT : SWO ltT where
  irrefl := fun x => (ltT_no x x).2 (ltN_irrefl _)
  trans := fun x y z h1 h2 => ltN_trans h1 h2
  ntrans := fun x y z h1 h2 => by
    rw [ltT_no] at *
    intro h
    by_cases e : x.1.name = y.1.name
    · rw [e] at h; exact h2 h
    · rcases ltN_total e with h3 | h3
      · exact h1 h3
      · exact h2 (ltN_trans h3 h)
theorem flatK_list (ts : List Tv) : (flatK encT 5 ts.toArray).toList = ts.flatMap encT := by
  apply List.ext_getElem?
  intro j
  by_cases hj : j < ts.length * 5
  · have h1 : ts[j / 5]? = some (ts[j / 5]'(by omega)) := List.getElem?_eq_getElem (by omega)
    have hm : j % 5 < 5 := Nat.mod_lt _ (by decide)
    have h2 : (encT (ts[j / 5]'(by omega)))[j % 5]? = some ((encT (ts[j / 5]'(by omega)))[j % 5]'hm) := List.getElem?_eq_getElem _
    have h3 := flat_get (sz := 5) encT (fun _ => rfl) ts (j / 5) (j % 5) _ _ h1 h2
    have hd : j / 5 * 5 + j % 5 = j := by omega
    rw [hd] at h3
    rw [h3]
    simp only [flatK, Array.toList_map, Array.toList_range, List.getElem?_map, List.size_toArray]
    rw [List.getElem?_range hj]
    simp only [Option.map_some, Option.some.injEq]
    have e1 : ts.toArray[j / 5]! = ts[j / 5]'(by omega) := by
      rw [getElem!_pos ts.toArray (j / 5) (by simp; omega)]; simp
    rw [e1, getElem!_pos _ (j % 5) hm]
  · rw [List.getElem?_eq_none (by simp [flatK]; omega), List.getElem?_eq_none (by rw [flat_len (sz := 5) encT (fun _ => rfl)]; omega)]
noncomputable def svT : TypeInfo := (Tryz.prog.info? 24).get (by kernel_rfl)
noncomputable def svE : TypeInfo := (Tryz.prog.info? 49).get (by kernel_rfl)
theorem svK (n : Nat) (h2 : 2 ≤ n) : Lib.swapperK n svE 25 = 9 := by
  have a : svE.hasPointers = true := by kernel_rfl
  have b : svE.bytes = 96 := by kernel_rfl
  have c : (n == 0) = false := by simp; omega
  have d : (n == 1) = false := by simp; omega
  simp [Lib.swapperK, a, b, c, d]
set_option maxHeartbeats 2000000 in
/-- The closure that compares two targets by name. -/
theorem less_calls (blk off c Bs size : Nat) (W : World) (G : Nat → ByteArray) (hs : W.cell? ⟨Bs, 0, none⟩ = some (.slice (some ⟨blk, off, none⟩) size c))
    (hc : ∀ t, t < size → W.cell? ⟨blk, off + t * 5, none⟩ = some (.string (G t))) (i j : Nat) (hi : i < size) (hj : j < size) (_hsz : size < 4611686018427387904) :
    Calls Tryz.prog 27 #[.int .i64 i, .int .i64 j, .pointer (some ⟨Bs, 0, none⟩)] W fun e w' => e = .returned (.bool (Op.bytesLess (G i).toList (G j).toList)) ∧ ∃ q, w' = W.drewN q := by
  have ci := hc i hi
  have cj := hc j hj
  go_enter Tryz.func27, Tryz.ntmps27
  go_wp2
  go_quiet (fail)
  go_wp2
  go_ret
  exact ⟨rfl, nq, rfl⟩
theorem Hp.grown {w0 w : World} {F0 F : Fz} {L : List Ch} (h : Hp w0 F0 F L w) (os : Array Obj) : Hp w0 F0 F L (grow w os) :=
  h.below_step ⟨rfl, rfl, rfl, by simp, fun k hk => by rw [Go.Sort.heap_grow_old _ _ hk]⟩
theorem heap_sortedK {w : World} {g n : Nat} {os : Array Obj} {cur : Array Value} {e : TypeId} {fr : Nat × Nat} (d : Array Tv) (hb : w.heap[g]? = some (.cells cur e fr)) :
    (grow (putRowK encT 5 (Go.Sort.ahead w n) g 0 d) os).heap[g]? = some (.cells (Go.Sort.putCells id 0 (flatK encT 5 d) cur) e fr) := by
  have hg : g < w.heap.size := (Array.getElem?_eq_some_iff.1 hb).1
  rw [Go.Sort.heap_grow_old _ _ (by simpa [putRowK] using hg)]
  simp [putRowK, Go.Sort.putRow, Go.Sort.mapBlock, Go.Sort.ahead, Array.getElem?_modify, hb, Go.Sort.onCells]
theorem take_putCellsK (cur F : Array Value) (h : F.size ≤ cur.size) : (Go.Sort.putCells id 0 F cur).toList.take F.size = F.toList := by
  apply List.ext_getElem?
  intro j
  by_cases hj : j < F.size
  · rw [List.getElem?_take_of_lt hj, Array.getElem?_toList]
    simp [Go.Sort.putCells, hj, show j < cur.size by omega]
  · rw [List.getElem?_take_eq_none (by omega), List.getElem?_eq_none (by simp; omega)]
def SortT (ts : List Tv) : Prop := ts.Pairwise fun a b => ¬ ltN b.1.name a.1.name
theorem swap1 : Tryz.prog.funcs.findIdx? (fun x => x.name == "internal/reflectlite" ++ ".Swapper$" ++ toString 1) = some 61 := by kernel_rfl
theorem swap2 : Tryz.prog.funcs.findIdx? (fun x => x.name == "internal/reflectlite" ++ ".Swapper$" ++ toString 2) = some 62 := by kernel_rfl
theorem sort_tiny (p : Option Addr) (n c : Nat) (h1 : n ≤ 1) (lf : Fn) (la lb : Array Value) (w : World) :
    Calls Tryz.prog 26 #[.iface 24 (.slice p n c), .func lf la lb] w fun e w' => e = .returned (.tuple #[]) ∧ ∃ os, w' = grow w os := by
  by_cases h0 : n = 0
  · exact Any.sort_Slice_tiny Sh.Tryz.laysGg6 24 49 svT svE (by kernel_rfl) (by kernel_rfl) (by kernel_rfl) (by kernel_rfl) 25 (fun _ => by kernel_rfl) p n c h1 61 (by subst h0; exact swap1) lf la lb w
  · have e1 : n = 1 := by omega
    exact Any.sort_Slice_tiny Sh.Tryz.laysGg6 24 49 svT svE (by kernel_rfl) (by kernel_rfl) (by kernel_rfl) (by kernel_rfl) 25 (fun _ => by kernel_rfl) p n c h1 62 (by subst e1; exact swap2) lf la lb w
theorem sort_many (blk c Bs : Nat) (d : Array Tv) (h2 : 2 ≤ d.size) (hsz : d.size < 4611686018427387904) (w : World) (hH : HoldsK encT 5 w blk 0 d) (hblk : blk < w.heap.size)
    (hBs : w.cell? ⟨Bs, 0, none⟩ = some (.slice (some ⟨blk, 0, none⟩) d.size c)) (hB1 : Bs < w.heap.size) (hB2 : Bs ≠ blk) :
    Calls Tryz.prog 26 #[.iface 24 (.slice (some ⟨blk, 0, none⟩) d.size c), .func (.func 27) #[] #[.pointer (some ⟨Bs, 0, none⟩)]] w fun e w' =>
      e = .returned (.tuple #[]) ∧ ∃ d' n os, PermIn 0 d.size d d' ∧ SortedIn ltT 0 d.size d' ∧ w' = grow (putRowK encT 5 (Go.Sort.ahead w n) blk 0 d') os := by
  have hless : LessReadsK Tryz.prog 27 #[.pointer (some ⟨Bs, 0, none⟩)] encT 5 ltT blk 0 d.size w := by
    intro m os dk hs i j hi hj
    have e : sortWorldK encT 5 w blk 0 m dk os = putRowK encT 5 (grow (Go.Sort.ahead w m) os) blk 0 dk := by
      unfold sortWorldK; rw [Go.Sort.putRowK_grow _ _ (Go.Sort.ahead w m) _ blk 0 _ hblk]
    have hHg : HoldsK encT 5 (grow (Go.Sort.ahead w m) os) blk 0 d := Go.Sort.holdsK_grow _ _ _ _ blk 0 d hblk (Go.Sort.holdsK_ahead _ _ _ _ _ _ _ hH)
    refine less_calls blk 0 c Bs d.size _ (fun t => dk[t]!.1.name) ?_ (fun t ht => ?_) i j hi hj (by omega)
    · rw [e, Go.Sort.cell?_putRowK_other _ _ _ blk 0 dk _ (by exact hB2), Go.Sort.cell?_grow _ _ _ (by exact hB1)]; exact hBs
    · rw [e]; exact ((Go.Sort.holdsK_putRowK _ _ _ blk 0 d dk hHg hs).cell (i := t) (c := 0) (by omega) (by omega)).1
  exact Any.sort_Slice_cells_sorted Sh.Tryz.laysGg6 24 49 svT svE (by kernel_rfl) (by kernel_rfl) (by kernel_rfl) (by kernel_rfl) 25 (fun _ => by kernel_rfl) encT 5 (fun _ => rfl) (by kernel_rfl) (fun _ => by kernel_rfl)
    (fun x v hv => tgc_one (oneV_one _) (oneV_one _) v hv) ltT swo_ltT 27 _
    (enters_of Tryz.func27 (by kernel_rfl) rfl) blk 0 c d h2 hsz 69 (by rw [svK _ h2]; kernel_rfl) false
    (fun args W => run_callFunc_extern Tryz.func69 (by kernel_rfl) (by kernel_rfl) (by kernel_rfl) (e := Extern.ReflectliteSwapper.swap false) (by kernel_rfl) args W) w hless hH hblk
/-- The targets are put in the order of their names. -/
theorem sortT_calls {w0 w : World} {F0 F : Fz} {L : List Ch} (h : Hp w0 F0 F L w) (i k : Nat) {v : Value} {ts : List Tv} {Bs : Nat} (hi : L[i]? = some (.own v 49 5 ts.length (ts.flatMap tcs))) (hk : L[k]? = some (.box Bs [v] 24)) (hik : i ≠ k) (hone : ∀ t ∈ ts, OneT t) (hsz : ts.length < 4611686018427387904) :
    Calls Tryz.prog 26 #[.iface 24 v, .func (.func 27) #[] #[pt Bs]] w fun e w' => e = .returned (.tuple #[]) ∧ ∃ ts' : List Tv, ts'.Perm ts ∧ SortT ts' ∧ Hp w0 F0 F (L.set i (.own v 49 5 ts'.length (ts'.flatMap tcs))) w' := by
  have hown := h.holds i _ hi
  have self : L.set i (.own v 49 5 ts.length (ts.flatMap tcs)) = L := by
    obtain ⟨l1, e1⟩ := List.getElem?_eq_some_iff.1 hi
    rw [← e1]; exact List.set_getElem_self l1
  have tiny : ts.length ≤ 1 → ∀ p c, v = .slice p ts.length c → Calls Tryz.prog 26 #[.iface 24 v, .func (.func 27) #[] #[pt Bs]] w fun e w' => e = .returned (.tuple #[]) ∧ ∃ ts' : List Tv, ts'.Perm ts ∧ SortT ts' ∧ Hp w0 F0 F (L.set i (.own v 49 5 ts'.length (ts'.flatMap tcs))) w' := fun h1 p c hv => by
    subst hv
    refine (sort_tiny p ts.length c h1 _ _ _ w).mono ?_
    rintro e w' ⟨rfl, os, rfl⟩
    refine ⟨rfl, ts, .refl _, ?_, ?_⟩
    · match ts, h1 with
      | [], _ => exact .nil
      | [t], _ => exact List.pairwise_singleton _ _
    · rw [self]; exact h.grown os
  rcases hown.2 with ⟨rfl, h0⟩ | ⟨g, cap, cur, rfl, hg, hh, hle, hm, hcs, ht⟩
  · exact tiny (by omega) none 0 (by rw [h0])
  · by_cases h2 : 2 ≤ ts.length
    · have hgl := (Array.getElem?_eq_some_iff.1 hh).1
      have hbk := h.holds k _ hk
      have hbl := (Array.getElem?_eq_some_iff.1 hbk).1
      have hne : Bs ≠ g := fun e => h.disj i k _ _ g hik hi hk (by simp [Ch.blk, Value.ownBlock]) (by rw [e]; rfl)
      have hfl : (flatK encT 5 ts.toArray).toList = ts.flatMap tcs := by rw [flatK_list, encT_flat hone]
      have hfs : (flatK encT 5 ts.toArray).size = ts.length * 5 := by simp [flatK]
      have hH : HoldsK encT 5 w g 0 ts.toArray := by
        intro j hj
        refine ⟨?_, by simp [World.frozen?, hh]⟩
        have hj5 : j < ts.length * 5 := by rw [← hfs]; exact hj
        have hg1 : (ts.flatMap tcs)[j]? = cur.toList[j]? := by rw [← ht, List.getElem?_take_of_lt hj5]
        rw [← hfl] at hg1
        simp only [World.cell?, hh, Nat.zero_add]
        simp only [Option.isSome_none, Bool.false_eq_true, if_false]
        rw [← Array.getElem?_toList, ← hg1, Array.getElem?_toList, Array.getElem?_eq_getElem hj]
        rw [getElem!_pos _ j hj]; rfl
      have hBs : w.cell? ⟨Bs, 0, none⟩ = some (.slice (some ⟨g, 0, none⟩) ts.toArray.size cap) := by
        simp only [Ch.holds] at hbk
        simp [World.cell?, hbk]
      have hc := sort_many g cap Bs ts.toArray (by simpa using h2) (by simpa using hsz) w hH hgl hBs hbl hne
      rw [List.size_toArray] at hc
      refine hc.mono ?_
      rintro e w' ⟨rfl, d', n, os, hp, hso, rfl⟩
      obtain ⟨hps, _, hpp⟩ := hp
      have hps : d'.size = ts.length := hps.trans (by simp)
      have hperm : d'.toList.Perm ts := by
        have e1 : d'.extract 0 ts.length = d' := by rw [← hps]; simp
        have e2 : ts.toArray.extract 0 ts.length = ts.toArray := by simp
        rw [e1, e2] at hpp
        simpa using hpp
      have hone' : ∀ t ∈ d'.toList, OneT t := fun t ht => hone t (hperm.mem_iff.1 ht)
      have hfl' : (flatK encT 5 d').toList = d'.toList.flatMap tcs := by rw [← encT_flat hone', ← flatK_list]
      have hfs' : (flatK encT 5 d').size = ts.length * 5 := by simp [flatK, hps]
      refine ⟨rfl, d'.toList, hperm, ?_, ?_⟩
      · refine List.pairwise_iff_getElem.2 fun a b ha hb hab => ?_
        have hlen : d'.toList.length = ts.length := by simp [hps]
        have := hso a b (Nat.zero_le _) hab (by omega)
        rw [getElem!_pos d' a (by simpa using ha), getElem!_pos d' b (by simpa using hb)] at this
        rw [ltT_no] at this
        simpa using this
      · have hlen : d'.toList.length = ts.length := by simp [hps]
        have hgr : (grow (putRowK encT 5 (Go.Sort.ahead w n) g 0 d') os).os = w.os ∧ (grow (putRowK encT 5 (Go.Sort.ahead w n) g 0 d') os).tape = w.tape ∧ (grow (putRowK encT 5 (Go.Sort.ahead w n) g 0 d') os).output = w.output := ⟨rfl, rfl, rfl⟩
        refine h.change i (.own (.slice (some ⟨g, 0, none⟩) ts.length cap) 49 5 d'.toList.length (d'.toList.flatMap tcs)) hi hgr.1 hgr.2.1 hgr.2.2 (by simp [putRowK]) (fun k hk hne => ?_) ?_ (fun b hb => .inl (by simpa [Ch.blk, Value.ownBlock] using hb))
        · have hgk : g ≠ k := fun e => hne (by rw [← e]; simp [Ch.blk, Value.ownBlock])
          rw [Go.Sort.heap_grow_old _ _ (by simpa [putRowK] using hk)]
          simp [putRowK, Go.Sort.putRow, Go.Sort.mapBlock, Go.Sort.ahead, Array.getElem?_modify, hgk]
        · refine ⟨by rw [flat_len tcs tcs_len], .inr ⟨g, cap, _, by rw [hlen], hg, heap_sortedK _ hh, by rw [hlen]; exact hle, hm, by simpa [Go.Sort.putCells] using hcs, ?_⟩⟩
          rw [hlen, ← hfs', take_putCellsK _ _ (by
            have := congrArg List.length ht
            rw [List.length_take, flat_len tcs tcs_len] at this
            rw [hfs']; simp at this ⊢; omega), hfl']
    · exact tiny (by omega) _ _ rfl
end Go.Proofs.YtmiihhbgfijcmaaGreat.K

