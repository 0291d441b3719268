/- Targets: the law's helpers on what is told: sizes, copies, comparisons, marks. -/
import Derived.Test.YtmiihhbgfijcmaaGreatZu
namespace Go.Proofs.YtmiihhbgfijcmaaGreat.K
open Go Go.RowKit
set_option linter.unusedVariables false
set_option linter.unusedSimpArgs false
set_option maxRecDepth 20000
theorem C13q : CF Tryz.prog 13 := ⟨_, Tryz.func13, rfl, rfl⟩
theorem C19q : CF Tryz.prog 19 := ⟨_, Tryz.func19, rfl, rfl⟩
theorem C29q : CF Tryz.prog 29 := ⟨_, Tryz.func29, rfl, rfl⟩
theorem C34q : CF Tryz.prog 34 := ⟨_, Tryz.func34, rfl, rfl⟩
theorem C42q : CF Tryz.prog 42 := ⟨_, Tryz.func42, rfl, rfl⟩
theorem C53q : CF Tryz.prog 53 := ⟨_, Tryz.func53, rfl, rfl⟩
theorem T40z : TI Tryz.prog 40 (.agg #[.string ⟨#[]⟩, .slice none 0 0]) 2 40 := TI.of (by kernel_rfl)
theorem A40z : AG Tryz.prog 40 true := AG.struct Tryz.underlying40
theorem O40_0z : FO Tryz.prog 40 0 0 := FO.of Tryz.underlying40 rfl rfl rfl T9 (Nat.succ_ne_zero _)
theorem O40_1z : FO Tryz.prog 40 1 1 := FO.of Tryz.underlying40 rfl rfl rfl T37 (Nat.succ_ne_zero _)
def tdc (f : ByteArray) (s : Value) : List Value := [.string f, s]
theorem szTold_calls (F : Fz) (w0 : World) (hF : Sub F (hv w0)) (f : ByteArray) (s : Value) (es : List At) (hr : FRow F s es.length 4 (rowA es)) (left : Int) (hl : 0 ≤ left ∧ left ≤ 1048576) (hs : ∀ e ∈ es, e.t.size ≤ 9223372036854775807) (hf : f.size ≤ 9223372036854775807) :
    Calls Tryz.prog 13 #[.agg (tdc f s).toArray, .int .i64 left] w0 fun e w' => ∃ r : Int, e = .returned (.int .i64 r) ∧ Ext F w0 F w' ∧ -1 ≤ r ∧ r ≤ left ∧ (0 ≤ r → es.length ≤ 1048576) := by
  refine calls 19 Tryz.func13 rfl rfl rfl ?_
  have h := Hp.start hF
  refine W.seq (W.region rfl ?_)
  refine WL.box h rfl (fun b2 w h => ?_)
  refine WL.p h Val.as ?_
  refine WL.nil ?_
  refine W.seq (W.region rfl ?_)
  refine WL.p h Val.mv ?_
  refine WL.p h (Val.fa O40_0z rfl) ?_
  refine WL.p h (Val.ld 0 A9 rfl rfl rfl) ?_
  refine WL.p h (Val.lenStr Tryz.underlying9 rfl) ?_
  refine WL.p h (Val.subi (c := left - (f.size : Int)) rfl rfl (by omega)) ?_
  refine WL.p h Val.as ?_
  refine WL.nil ?_
  refine W.seq (W.seq (W.region rfl ?_))
  refine WL.p h Val.mv ?_
  refine WL.p h (Val.lt (a := left - (f.size : Int)) (b := 0) rfl rfl) ?_
  refine WL.dec (fun c1 => ?_) (fun c1 => ?_)
  · refine WL.nil ?_
    refine W.condT rfl ?_
    refine W.seq (W.region rfl ?_)
    refine WL.p h Val.as ?_
    refine WL.nil ?_
    refine W.ret ?_
    exact fin1 (v := .int .i64 (-1)) rfl rfl ⟨_, rfl, h.toExt, by omega, by omega, fun h => by omega⟩
  refine WL.nil ?_
  refine W.condF rfl ?_
  refine W.skip ?_
  refine W.seq (W.region rfl ?_)
  refine WL.p h (Val.fa O40_1z rfl) ?_
  refine WL.p h (Val.ldS' 0 A37 T37 rfl rfl (vs := [s]) rfl at1) ?_
  refine WL.p h Val.mv ?_
  refine WL.call C34q (args := [.agg #[s], .int .i64 (left - (f.size : Int))]) rfl ((szValue_calls F w h.sub s es hr _ (by omega) hs).mono ?_)
  rintro e w' ⟨r, rfl, hE, hr1, hr2⟩
  have h := h.call hE
  have hr3 : 0 ≤ r → r + es.length ≤ left - (f.size : Int) := fun h => (hr2 h).1
  clear hr2
  refine ⟨_, rfl, ?_⟩
  refine WL.p h Val.as ?_
  refine WL.nil ?_
  refine W.seq (W.seq (W.region rfl ?_))
  refine WL.p h Val.mv ?_
  refine WL.p h (Val.lt (a := r) (b := 0) rfl rfl) ?_
  refine WL.dec (fun c2 => ?_) (fun c2 => ?_)
  · refine WL.nil ?_
    refine W.condT rfl ?_
    refine W.seq (W.region rfl ?_)
    refine WL.p h Val.as ?_
    refine WL.nil ?_
    refine W.ret ?_
    exact fin1 (v := .int .i64 (-1)) rfl rfl ⟨_, rfl, h.toExt, by omega, by omega, fun h => by omega⟩
  refine WL.nil ?_
  refine W.condF rfl ?_
  refine W.skip ?_
  refine W.seq (W.region rfl ?_)
  refine WL.p h Val.mv ?_
  refine WL.p h Val.as ?_
  refine WL.nil ?_
  refine W.ret ?_
  exact fin1 (v := .int .i64 r) rfl rfl ⟨_, rfl, h.toExt, by omega, by have := hr3 (by omega); omega, fun h => by have := hr3 (by omega); omega⟩
theorem szToldS_calls (F : Fz) (w0 : World) (hF : Sub F (hv w0)) (v : Value) (ds : List Td) (xs : List Value) (hr : FRow F v ds.length 2 xs) (hd : DRow F ds xs) (hs : ∀ d ∈ ds, ∀ e ∈ d.2, e.t.size ≤ 9223372036854775807) (hf : ∀ d ∈ ds, d.1.size ≤ 9223372036854775807) :
    Calls Tryz.prog 4 #[v, .int .i64 1048576] w0 fun e w' => ∃ r : Int, e = .returned (.int .i64 r) ∧ Ext F w0 F w' ∧ (0 ≤ r → ds.length ≤ 1048576 ∧ ∀ d ∈ ds, d.2.length ≤ 1048576) := by
  refine calls 27 Tryz.func4 rfl rfl rfl ?_
  have h := Hp.start hF
  have hmax := hr.max
  refine W.seq (W.region rfl ?_)
  refine WL.p h Val.as ?_
  refine WL.nil ?_
  refine W.seq (W.region rfl ?_)
  refine WL.p h Val.mv ?_
  refine WL.p h Val.mv ?_
  refine WL.p h (Val.len Tryz.underlying22 rfl hr.val) ?_
  refine WL.p h (Val.subi (c := 1048576 - (ds.length : Int)) rfl rfl (by omega)) ?_
  refine WL.p h Val.as ?_
  refine WL.nil ?_
  refine W.seq (W.seq (W.region rfl ?_))
  refine WL.p h Val.mv ?_
  refine WL.p h (Val.lt (a := 1048576 - (ds.length : Int)) (b := 0) rfl rfl) ?_
  refine WL.dec (fun c1 => ?_) (fun c1 => ?_)
  · refine WL.nil ?_
    refine W.condT rfl ?_
    refine W.seq (W.region rfl ?_)
    refine WL.p h Val.as ?_
    refine WL.nil ?_
    refine W.ret ?_
    exact fin1 (v := .int .i64 (-1)) rfl rfl ⟨_, rfl, h.toExt, fun h => by omega⟩
  refine WL.nil ?_
  refine W.condF rfl ?_
  refine W.skip ?_
  refine W.seq (W.seq (W.region rfl ?_))
  refine WL.p h Val.as ?_
  refine WL.nil ?_
  refine W.block ?_
  refine W.loop (fun m R w => ∃ (j : Nat) (l : Int), m + j = ds.length ∧ Hp w0 F F [] w ∧ 0 ≤ l ∧ l ≤ 1048576 ∧ (∀ (i : Nat) d, i < j → ds[i]? = some d → d.2.length ≤ 1048576) ∧ R 0 = v ∧ R 1 = .int .i64 l ∧ R 5 = .int .i64 (j : Int)) ds.length ⟨0, 1048576 - (ds.length : Int), by omega, h, by omega, by omega, fun i d hi => by omega, rfl, rfl, rfl⟩ (fun m R w hI => ?_)
  clear h
  obtain ⟨j, l, hm, h, hl0, hl1, hall, h0, h1, h5⟩ := hI
  refine W.seq (W.seq (W.region rfl ?_))
  refine WL.p h Val.mv ?_
  refine WL.p h Val.mv ?_
  refine WL.p h (Val.len Tryz.underlying22 h0 hr.val) ?_
  refine WL.p h (Val.lt h5 rfl) ?_
  refine WL.dec (fun c2 => ?_) (fun c2 => ?_)
  · obtain ⟨d, hdj⟩ : ∃ d, ds[j]? = some d := ⟨_, List.getElem?_eq_getElem (by omega)⟩
    have hdm := List.mem_of_getElem? hdj
    obtain ⟨s, hcell, hrs⟩ := hd.get j d hdj
    refine WL.nil ?_
    refine W.condT rfl ?_
    refine W.skip ?_
    refine W.seq (W.block ?_)
    refine W.seq (W.region rfl ?_)
    refine WL.p h Val.mv ?_
    refine WL.p h Val.mv ?_
    refine WL.p h (Val.ix (i := j) Tryz.underlying22 T40z h0 h5 (hr.slice (by omega)) (by omega)) ?_
    refine WL.p h (Val.ldRS A40z T40z hr rfl (cs := tdc d.1 s) rfl hcell) ?_
    refine WL.p h Val.mv ?_
    refine WL.call C13q (args := [.agg (tdc d.1 s).toArray, .int .i64 l]) (congrArg (fun x : Value => [Value.agg (tdc d.1 s).toArray, x]) h1) ((szTold_calls F w h.sub d.1 s d.2 hrs l (by omega) (hs d hdm) (hf d hdm)).mono ?_)
    rintro e w' ⟨r, rfl, hE, hr1, hr2, hr3⟩
    have h := h.call hE
    refine ⟨_, rfl, ?_⟩
    refine WL.p h Val.as ?_
    refine WL.nil ?_
    refine W.seq (W.region rfl ?_)
    refine WL.p h Val.mv ?_
    refine WL.p h (Val.lt (a := r) (b := 0) rfl rfl) ?_
    refine WL.dec (fun c3 => ?_) (fun c3 => ?_)
    · refine WL.nil ?_
      refine W.condT rfl ?_
      refine W.seq (W.region rfl ?_)
      refine WL.p h Val.as ?_
      refine WL.nil ?_
      refine W.ret ?_
      exact fin1 (v := .int .i64 (-1)) rfl rfl ⟨_, rfl, h.toExt, fun h => by omega⟩
    refine WL.nil ?_
    refine W.condF rfl ?_
    refine W.skip ?_
    refine W.region rfl ?_
    refine WL.p h Val.mv ?_
    refine WL.p h (Val.addi (c := ((j + 1 : Nat) : Int)) h5 rfl (by omega)) ?_
    refine WL.p h Val.as ?_
    refine WL.nil ?_
    exact ⟨m - 1, by omega, j + 1, r, by omega, h, by omega, by omega, fun i y hi hy => by
      by_cases e : i = j
      · subst e; rw [hdj] at hy; cases hy; exact hr3 (by omega)
      · exact hall i y (by omega) hy, h0, rfl, rfl⟩
  · refine WL.nil ?_
    refine W.condF rfl ?_
    refine W.exit ?_
    refine W.seq (W.region rfl ?_)
    refine WL.p h Val.mv ?_
    refine WL.p h Val.as ?_
    refine WL.nil ?_
    refine W.ret ?_
    exact fin1 (v := .int .i64 l) rfl h1 ⟨_, rfl, h.toExt, fun _ => ⟨by omega, fun d hd => by
      obtain ⟨i, hi⟩ := List.mem_iff_getElem?.1 hd
      exact hall i d (by have := (List.getElem?_eq_some_iff.1 hi).1; omega) hi⟩⟩
/-! ### Copies -/
theorem toTold_calls (F : Fz) (w0 : World) (hF : Sub F (hv w0)) (f : ByteArray) (s : Value) (es : List At) (hr : FRow F s es.length 4 (rowA es)) (hl : es.length ≤ 1048576) :
    Calls Tryz.prog 19 #[.agg (tdc f s).toArray] w0 fun e w' => ∃ b, e = .returned (.agg (tdc f (.slice (some ⟨b, 0, none⟩) es.length es.length)).toArray) ∧ Ext F w0 F w' ∧ w0.heap.size ≤ b ∧ w'.heap[b]? = some (.cells (rowA es).toArray 78 (0, 0)) := by
  refine calls 12 Tryz.func19 rfl rfl rfl ?_
  have h := Hp.start hF
  refine W.seq (W.region rfl ?_)
  refine WL.box h rfl (fun b1 w h => ?_)
  refine WL.alloc h T47z (fun b2 w h => ?_)
  refine WL.nil ?_
  refine W.seq (W.region rfl ?_)
  refine WL.alloc h T47z (fun b3 w h => ?_)
  refine WL.nil ?_
  refine W.seq (W.region rfl ?_)
  refine WL.p h (Val.fa O40_0z rfl) ?_
  refine WL.p h (Val.ld 0 A9 rfl rfl rfl) ?_
  refine WL.p h (Val.fa O47_0z rfl) ?_
  refine WL.st 2 (v := .string f) h rfl T9 rfl rfl rfl rfl (fun w h => ?_)
  refine WL.nil ?_
  refine W.seq (W.region rfl ?_)
  refine WL.p h (Val.fa O40_1z rfl) ?_
  refine WL.p h (Val.ldS' 0 A37 T37 rfl rfl (vs := [s]) rfl at1) ?_
  refine WL.call C42q (args := [.agg #[s]]) rfl ((toValue_calls F w h.sub s es hr hl).mono ?_)
  rintro e w' ⟨b, rfl, hE, hb, hcell⟩
  have h := h.gain (.box b (rowA es) 78) hE.below hcell (fun b' hb' => by simp only [Ch.blk, Option.some.injEq] at hb'; omega)
  refine ⟨_, rfl, ?_⟩
  refine WL.p h (Val.fa O47_1z rfl) ?_
  refine WL.stA 2 h rfl T42 rfl (vs := [.slice (some ⟨b, 0, none⟩) es.length es.length]) rfl (one1 rfl) rfl (Nat.le_refl 2) (fun w h => ?_)
  have h : Hp w0 F F [.box b1 (tdc f s) 40, .box b2 [.string ⟨#[]⟩, .slice none 0 0] 47, .box b3 (tdc f (.slice (some ⟨b, 0, none⟩) es.length es.length)) 47, .box b (rowA es) 78] w := h
  refine WL.nil ?_
  refine W.seq (W.region rfl ?_)
  refine WL.p h (Val.ldS 2 A47z T47z rfl rfl rfl) ?_
  refine WL.stS 1 h rfl T47z rfl (vs := tdc f (.slice (some ⟨b, 0, none⟩) es.length es.length)) rfl (by simp [tdc, Value.oneCell']) rfl rfl (fun w h => ?_)
  refine WL.nil ?_
  refine W.ret ?_
  exact finBox h 1 rfl rfl rfl A47z T47z rfl ⟨b, rfl, h.toExt, (h.fresh 3 _ b rfl rfl).1, h.holds 3 _ rfl⟩
def bsl (p : Td × Nat) : Value := .slice (some ⟨p.2, 0, none⟩) p.1.2.length p.1.2.length
def xcell (p : Td × Nat) : List Value := tdc p.1.1 (bsl p)
def xbox (p : Td × Nat) : Ch := .box p.2 (rowA p.1.2) 78
/-- A copy's chunks. -/
def xL (b : Nat) (ps : List (Td × Nat)) : List Ch := .box b (ps.flatMap xcell) 47 :: ps.map xbox
theorem xcell_len (p : Td × Nat) : (xcell p).length = 2 := rfl
def z2 : List Value := [.string ⟨#[]⟩, .slice none 0 0]
theorem zrep (n : Nat) : (madeCells (Value.agg #[.string ⟨#[]⟩, .slice none 0 0]).cells (n * 2)).toList = (List.replicate n ()).flatMap fun _ => z2 := made_flat (sz := 2) (fun _ => z2) (fun _ => rfl) (by decide) () _ rfl n
theorem fill2 (X : List Value) (k p : Nat) (a : List Value) (hp : X.length = p) (ha : a.length = 2) : (X ++ (List.replicate (k + 1) ()).flatMap fun _ => z2).take p ++ a ++ (X ++ (List.replicate (k + 1) ()).flatMap fun _ => z2).drop (p + a.length) = (X ++ a) ++ (List.replicate k ()).flatMap fun _ => z2 := by
  subst hp
  rw [List.take_left, ha, List.drop_append, List.drop_eq_nil_of_le (by omega), List.nil_append, Nat.add_sub_cancel_left]
  rfl
def PXs (F : Fz) (w0 : World) (ds : List Td) (e : Ending) (w : World) : Prop := ∃ (b : Nat) (ps : List (Td × Nat)), e = .returned (.slice (some ⟨b, 0, none⟩) ds.length ds.length) ∧ Hp w0 F F (xL b ps) w ∧ ps.map (·.1) = ds
theorem toToldS_calls (F : Fz) (w0 : World) (hF : Sub F (hv w0)) (v : Value) (ds : List Td) (xs : List Value) (hr : FRow F v ds.length 2 xs) (hd : DRow F ds xs) (hl : ds.length ≤ 1048576) (hls : ∀ d ∈ ds, d.2.length ≤ 1048576) :
    Calls Tryz.prog 6 #[v] w0 (PXs F w0 ds) := by
  refine calls 23 Tryz.func6 rfl rfl rfl ?_
  have h := Hp.start hF
  refine W.seq (W.region rfl ?_)
  refine WL.p h Val.as ?_
  refine WL.nil ?_
  refine W.seq (W.region rfl ?_)
  refine WL.p h Val.mv ?_
  refine WL.p h (Val.len Tryz.underlying22 rfl hr.val) ?_
  refine WL.make h Tryz.underlying28 T47z rfl rfl (by omega) (by omega) (fun b w h => ?_)
  refine WL.p h Val.as ?_
  refine WL.nil ?_
  refine W.seq (W.seq (W.region rfl ?_))
  refine WL.p h Val.as ?_
  refine WL.nil ?_
  refine W.block ?_
  refine W.loop (fun m R w => ∃ (j : Nat) (ps : List (Td × Nat)), m + j = ds.length ∧ Hp w0 F F (.box b (ps.flatMap xcell ++ (List.replicate m ()).flatMap fun _ => z2) 47 :: ps.map xbox) w ∧ ps.map (·.1) = ds.take j ∧ R 0 = v ∧ R 3 = .slice (some ⟨b, 0, none⟩) ds.length ds.length ∧ R 4 = .int .i64 (j : Int)) ds.length ⟨0, [], by omega, h.cast (by rw [zrep]; rfl), rfl, rfl, rfl, rfl⟩ (fun m R w hI => ?_)
  clear h
  obtain ⟨j, ps, hm, h, hps, h0, h3, h4⟩ := hI
  have hpl : ps.length = j := by
    have := congrArg List.length hps
    rw [List.length_map, List.length_take] at this
    omega
  have hxl : (ps.flatMap xcell).length = j * 2 := by rw [flat_len xcell xcell_len, hpl]
  refine W.seq (W.seq (W.region rfl ?_))
  refine WL.p h Val.mv ?_
  refine WL.p h Val.mv ?_
  refine WL.p h (Val.len Tryz.underlying22 h0 hr.val) ?_
  refine WL.p h (Val.lt h4 rfl) ?_
  refine WL.dec (fun c2 => ?_) (fun c2 => ?_)
  · obtain ⟨d, hdj⟩ : ∃ d, ds[j]? = some d := ⟨_, List.getElem?_eq_getElem (by omega)⟩
    have hdm := List.mem_of_getElem? hdj
    obtain ⟨s, hcell, hrs⟩ := hd.get j d hdj
    obtain ⟨m', rfl⟩ : ∃ m', m = m' + 1 := ⟨m - 1, by omega⟩
    refine WL.nil ?_
    refine W.condT rfl ?_
    refine W.skip ?_
    refine W.seq (W.block ?_)
    refine W.region rfl ?_
    refine WL.p h Val.mv ?_
    refine WL.p h Val.mv ?_
    refine WL.p h Val.mv ?_
    refine WL.p h Val.mv ?_
    refine WL.p h (Val.ix (i := j) Tryz.underlying22 T40z h0 h4 (hr.slice (by omega)) (by omega)) ?_
    refine WL.p h (Val.ldRS A40z T40z hr rfl (cs := tdc d.1 s) rfl hcell) ?_
    refine WL.call C19q (args := [.agg (tdc d.1 s).toArray]) rfl ((toTold_calls F w h.sub d.1 s d.2 hrs (hls d hdm)).mono ?_)
    rintro e w' ⟨b', rfl, hE, hb', hcell'⟩
    have h := h.gain (.box b' (rowA d.2) 78) hE.below hcell' (fun b0 hb0 => by simp only [Ch.blk, Option.some.injEq] at hb0; omega)
    refine ⟨_, rfl, ?_⟩
    refine WL.p h (Val.ix (i := j) Tryz.underlying28 T47z h3 h4 ⟨_, rfl⟩ (by omega)) ?_
    refine WL.stA 0 h rfl T47z rfl (vs := xcell (d, b')) rfl (by simp [xcell, tdc, bsl, Value.oneCell']) rfl (by simp [sblk, soff, hxl, xcell_len, z2]; omega) (fun w h => ?_)
    have h : Hp w0 F F (.box b ((ps ++ [(d, b')]).flatMap xcell ++ (List.replicate m' ()).flatMap fun _ => z2) 47 :: (ps ++ [(d, b')]).map xbox) w := h.cast (by
      have := fill2 (ps.flatMap xcell) m' (j * 2) (xcell (d, b')) hxl rfl
      simp only [sblk, soff, Nat.zero_add] at this ⊢
      rw [List.flatMap_append, List.map_append]
      simp only [List.cons_append, List.set_cons_zero, this]
      simp [xbox])
    refine WL.nil ?_
    refine W.region rfl ?_
    refine WL.p h Val.mv ?_
    refine WL.p h (Val.addi (c := ((j + 1 : Nat) : Int)) h4 rfl (by omega)) ?_
    refine WL.p h Val.as ?_
    refine WL.nil ?_
    exact ⟨m', by omega, j + 1, ps ++ [(d, b')], by omega, h, by rw [List.map_append, hps]; obtain ⟨l1, e1⟩ := List.getElem?_eq_some_iff.1 hdj; rw [List.take_succ_eq_append_getElem l1, e1]; rfl, h0, h3, rfl⟩
  · obtain rfl : m = 0 := by omega
    refine WL.nil ?_
    refine W.condF rfl ?_
    refine W.exit ?_
    refine W.seq (W.region rfl ?_)
    refine WL.p h Val.mv ?_
    refine WL.p h Val.as ?_
    refine WL.nil ?_
    refine W.ret ?_
    exact fin1 (v := .slice (some ⟨b, 0, none⟩) ds.length ds.length) rfl h3 ⟨b, ps, rfl, h.cast (by simp [xL]), by rw [hps, List.take_of_length_le (by omega)]⟩
theorem drow_of {F : Fz} {b : Nat} {ps : List (Td × Nat)} {ds : List Td} (h : ∀ c ∈ xL b ps, c.fixed F) (hp : ps.map (·.1) = ds) (hl : ds.length ≤ 1048576) (hls : ∀ d ∈ ds, d.2.length ≤ 1048576) : FRow F (.slice (some ⟨b, 0, none⟩) ds.length ds.length) ds.length 2 (ps.flatMap xcell) ∧ DRow F ds (ps.flatMap xcell) := by
  have hpl : ps.length = ds.length := by rw [← hp, List.length_map]
  have h1 : F b = some (.cells (ps.flatMap xcell).toArray 47 (0, 0)) := h (.box b (ps.flatMap xcell) 47) (List.mem_cons_self ..)
  refine ⟨box_row h1 (by rw [flat_len xcell xcell_len, hpl]) (by omega), by rw [flat_len xcell xcell_len, hpl], fun i d hd => ?_⟩
  rw [← hp, List.getElem?_map, Option.map_eq_some_iff] at hd
  obtain ⟨p, hpi, rfl⟩ := hd
  have hm := List.mem_of_getElem? hpi
  have h2 : F p.2 = some (.cells (rowA p.1.2).toArray 78 (0, 0)) := h (xbox p) (List.mem_cons_of_mem _ (List.mem_map.2 ⟨p, hm, rfl⟩))
  have hpd : p.1 ∈ ds := by rw [← hp]; exact List.mem_map.2 ⟨p, hm, rfl⟩
  exact ⟨bsl p, fun j u hu => flat_get xcell xcell_len ps i j p u hpi hu, box_row h2 (rowA_len _) (by have := hls _ hpd; omega)⟩
/-! ### Comparisons -/
theorem eqTold_calls (F : Fz) (w0 : World) (hF : Sub F (hv w0)) (f g : ByteArray) (s u : Value) (es fs : List At) (hr : FRow F s es.length 4 (rowA es)) (hs : FRow F u fs.length 4 (rowA fs)) :
    Calls Tryz.prog 29 #[.agg (tdc f s).toArray, .agg (tdc g u).toArray] w0 (PBz F w0 (f = g ∧ es = fs)) := by
  refine calls 16 Tryz.func29 rfl rfl rfl ?_
  have h := Hp.start hF
  refine W.seq (W.region rfl ?_)
  refine WL.box h rfl (fun b2 w h => ?_)
  refine WL.box h rfl (fun b3 w h => ?_)
  refine WL.p h Val.as ?_
  refine WL.nil ?_
  refine W.seq (W.seq (W.region rfl ?_))
  refine WL.p h (Val.fa O47_0z rfl) ?_
  refine WL.p h (Val.ld 0 A9 rfl rfl rfl) ?_
  refine WL.p h (Val.fa O47_0z rfl) ?_
  refine WL.p h (Val.ld 1 A9 rfl rfl rfl) ?_
  refine WL.p h (Val.sNe (a := f) (b := g) rfl rfl) ?_
  refine WL.dec (fun c0 => ?_) (fun c0 => ?_)
  · refine WL.nil ?_
    refine W.condT rfl ?_
    refine W.seq (W.region rfl ?_)
    refine WL.p h Val.as ?_
    refine WL.nil ?_
    refine W.ret ?_
    exact fin1 (v := .bool false) rfl rfl (PBz.no h.toExt (fun e => c0 e.1))
  refine WL.nil ?_
  refine W.condF rfl ?_
  refine W.skip ?_
  refine W.seq (W.seq (W.region rfl ?_))
  refine WL.p h (Val.fa O47_1z rfl) ?_
  refine WL.p h (Val.ldS' 0 A42 T42 rfl rfl (vs := [s]) rfl at1) ?_
  refine WL.p h (Val.fa O47_1z rfl) ?_
  refine WL.p h (Val.ldS' 1 A42 T42 rfl rfl (vs := [u]) rfl at1) ?_
  refine WL.call C53q (args := [.agg #[s], .agg #[u]]) rfl ((eqValue_calls F w h.sub s u es fs hr hs).mono ?_)
  rintro e w' ⟨rfl, hE⟩
  have h := h.call hE
  refine ⟨_, rfl, ?_⟩
  refine WL.p h (Val.not rfl) ?_
  by_cases c1 : es = fs
  rotate_left
  · refine WL.nil ?_
    refine W.condT (congrArg (fun b => Value.bool (!b)) (decide_eq_false c1)) ?_
    refine W.seq (W.region rfl ?_)
    refine WL.p h Val.as ?_
    refine WL.nil ?_
    refine W.ret ?_
    exact fin1 (v := .bool false) rfl rfl (PBz.no h.toExt (fun e => c1 e.2))
  refine WL.nil ?_
  refine W.condF (congrArg (fun b => Value.bool (!b)) (decide_eq_true c1)) ?_
  refine W.skip ?_
  refine W.seq (W.region rfl ?_)
  refine WL.p h Val.as ?_
  refine WL.nil ?_
  refine W.ret ?_
  exact fin1 (v := .bool true) rfl rfl (PBz.yes h.toExt ⟨Decidable.not_not.1 c0, c1⟩)
theorem eqToldS_calls (F : Fz) (w0 : World) (hF : Sub F (hv w0)) (v u : Value) (ds : List Td) (xs ys : List Value) (hr : FRow F v ds.length 2 xs) (hx : DRow F ds xs) (hs : FRow F u ds.length 2 ys) (hy : DRow F ds ys) : Calls Tryz.prog 9 #[v, u] w0 fun e w' => e = .returned (.bool true) ∧ Ext F w0 F w' := by
  refine calls 27 Tryz.func9 rfl rfl rfl ?_
  have h := Hp.start hF
  have hmax := hr.max
  refine W.seq (W.region rfl ?_)
  refine WL.p h Val.as ?_
  refine WL.nil ?_
  refine W.seq (W.seq (W.region rfl ?_))
  refine WL.p h Val.mv ?_
  refine WL.p h (Val.len Tryz.underlying28 rfl hr.val) ?_
  refine WL.p h Val.mv ?_
  refine WL.p h (Val.len Tryz.underlying28 rfl hs.val) ?_
  refine WL.p h (Val.ne (a := (ds.length : Int)) (b := (ds.length : Int)) rfl rfl) ?_
  refine WL.nil ?_
  refine W.condF (show Value.bool (decide (_ ≠ _)) = _ by simp) ?_
  refine W.skip ?_
  refine W.seq (W.seq (W.region rfl ?_))
  refine WL.p h Val.as ?_
  refine WL.nil ?_
  refine W.block ?_
  refine W.loop (fun m R w => ∃ j, m + j = ds.length ∧ Hp w0 F F [] w ∧ R 0 = v ∧ R 1 = u ∧ R 5 = .int .i64 (j : Int)) ds.length ⟨0, by omega, h, rfl, rfl, rfl⟩ (fun m R w hI => ?_)
  clear h
  obtain ⟨j, hm, h, h0, h1, h5⟩ := hI
  refine W.seq (W.seq (W.region rfl ?_))
  refine WL.p h Val.mv ?_
  refine WL.p h Val.mv ?_
  refine WL.p h (Val.len Tryz.underlying28 h0 hr.val) ?_
  refine WL.p h (Val.lt h5 rfl) ?_
  refine WL.dec (fun c1 => ?_) (fun c1 => ?_)
  · obtain ⟨d, hd⟩ : ∃ d, ds[j]? = some d := ⟨_, List.getElem?_eq_getElem (by omega)⟩
    obtain ⟨s, e1, e2⟩ := hx.get j d hd
    obtain ⟨t, f1, f2⟩ := hy.get j d hd
    refine WL.nil ?_
    refine W.condT rfl ?_
    refine W.skip ?_
    refine W.seq (W.block ?_)
    refine W.seq (W.draw (fun w => Hp w0 F F [] w) [] 10 (by kernel_rfl) rfl rfl ?_)
    have hS := h.drewN 1
    refine WD.take 0 rfl (by kernel_rfl) (fun _ _ _ h => fin_panic h) hS Val.mv ?_
    refine WD.take 1 rfl (by kernel_rfl) (fun _ _ _ h => fin_panic h) hS Val.mv ?_
    refine WD.take 2 rfl (by kernel_rfl) (fun _ _ _ h => fin_panic h) hS (Val.ix (i := j) Tryz.underlying28 T47z h0 h5 (hr.slice (by omega)) (by omega)) ?_
    refine WD.take 3 rfl (by kernel_rfl) (fun _ _ _ h => fin_panic h) hS (Val.ldRS A47z T47z hr rfl (cs := tdc d.1 s) rfl e1) ?_
    refine WD.take 4 rfl (by kernel_rfl) (fun _ _ _ h => fin_panic h) hS Val.mv ?_
    refine WD.take 5 rfl (by kernel_rfl) (fun _ _ _ h => fin_panic h) hS Val.mv ?_
    refine WD.take 6 rfl (by kernel_rfl) (fun _ _ _ h => fin_panic h) hS (Val.ix (i := j) Tryz.underlying28 T47z h1 h5 (hs.slice (by omega)) (by omega)) ?_
    refine WD.take 7 rfl (by kernel_rfl) (fun _ _ _ h => fin_panic h) hS (Val.ldRS A47z T47z hs rfl (cs := tdc d.1 t) rfl f1) ?_
    refine WD.one 8 rfl (by kernel_rfl) ?_
    refine WL.call C29q (args := [.agg (tdc d.1 s).toArray, .agg (tdc d.1 t).toArray]) rfl ((eqTold_calls F _ hS.sub d.1 d.1 s t d.2 d.2 e2 f2).mono ?_)
    rintro e w' ⟨b, rfl, hb, hE⟩
    have hS := hS.call hE
    refine ⟨_, rfl, ?_⟩
    refine WL.nil ?_
    refine ⟨hS, ?_⟩
    refine WD.take 9 rfl (by kernel_rfl) (fun _ _ _ h => fin_panic h) hS (Val.not rfl) ?_
    cases b with
    | false => exact absurd (hb.2 ⟨rfl, rfl⟩) (by simp)
    | true =>
      refine WD.nil (by kernel_rfl) ?_
      have h := hS
      refine W.condF rfl ?_
      refine W.skip ?_
      refine W.region rfl ?_
      refine WL.p h Val.mv ?_
      refine WL.p h (Val.addi (c := ((j + 1 : Nat) : Int)) h5 rfl (by omega)) ?_
      refine WL.p h Val.as ?_
      refine WL.nil ?_
      exact ⟨m - 1, by omega, j + 1, by omega, h, h0, h1, rfl⟩
  · refine WL.nil ?_
    refine W.condF rfl ?_
    refine W.exit ?_
    refine W.seq (W.region rfl ?_)
    refine WL.p h Val.as ?_
    refine WL.nil ?_
    refine W.ret ?_
    exact fin1 (v := .bool true) rfl rfl ⟨rfl, h.toExt⟩
/-! ### Marks -/
def cellsX (ps : List (Td × Nat)) (cs : List Value) : Prop := cs.length = ps.length * 2 ∧ ∀ (i : Nat) p, ps[i]? = some p → cs[i * 2 + 1]? = some (bsl p)
theorem cellsX_set {ps : List (Td × Nat)} {cs : List Value} (h : cellsX ps cs) (j : Nat) (u : Value) : cellsX ps (cs.set (j * 2) u) := by
  refine ⟨by rw [List.length_set]; exact h.1, fun i p hp => ?_⟩
  rw [List.getElem?_set_ne (by omega)]
  exact h.2 i p hp
theorem markBox_at {w0 w : World} {F0 F : Fz} {L : List Ch} (h : Hp w0 F0 F L w) (i : Nat) {p : Td × Nat} {k : Int} (hi : L[i]? = some (xbox p)) (hk : 0 ≤ k ∧ k ≤ 1125899906842624) (hn : p.1.2.length ≤ 1048576) :
    Calls Tryz.prog 31 #[bsl p, .int .i64 k] w fun e w' => e = .returned (.int .i64 (k + 4 * p.1.2.length)) ∧ ∃ c', Hp w0 F0 F (L.set i c') w' := by
  obtain ⟨F1, hs1, hX, hb⟩ := h.lend1 i hi
  exact (markAtomB_calls hX (Nat.le_refl _) (by rw [rowA_len]; omega) hk hn).mono fun e w' ⟨h1, h2⟩ => ⟨h1, _, hb _ _ h2⟩
theorem markToldS_calls {w0 w : World} {F0 F : Fz} {b : Nat} {ps : List (Td × Nat)} (h : Hp w0 F0 F (xL b ps) w) (hl : ps.length ≤ 1048576) (hls : ∀ p ∈ ps, p.1.2.length ≤ 1048576) :
    Calls Tryz.prog 10 #[.slice (some ⟨b, 0, none⟩) ps.length ps.length, .int .i64 1] w fun e w' => ∃ r : Int, e = .returned (.int .i64 r) ∧ 0 ≤ r ∧ ∃ L', Hp w0 F0 F L' w' := by
  refine calls 29 Tryz.func10 rfl rfl rfl ?_
  refine W.seq (W.region rfl ?_)
  refine WL.p h Val.as ?_
  refine WL.nil ?_
  refine W.seq (W.seq (W.region rfl ?_))
  refine WL.p h Val.as ?_
  refine WL.nil ?_
  refine W.block ?_
  refine W.loop (fun m R w => ∃ (j : Nat) (cs : List Value) (Ls : List Ch) (k : Int), m + j = ps.length ∧ Hp w0 F0 F (.box b cs 47 :: Ls) w ∧ cellsX ps cs ∧ (∀ (i : Nat) p, j ≤ i → ps[i]? = some p → Ls[i]? = some (xbox p)) ∧ 1 ≤ k ∧ k ≤ 1 + 4194305 * (j : Int) ∧ R 0 = .slice (some ⟨b, 0, none⟩) ps.length ps.length ∧ R 1 = .int .i64 k ∧ R 5 = .int .i64 (j : Int)) ps.length ⟨0, _, _, 1, by omega, h, ⟨flat_len xcell xcell_len ps, fun i p hp => flat_get xcell xcell_len ps i 1 p _ hp rfl⟩, fun i p _ hp => by rw [List.getElem?_map, hp]; rfl, by omega, by omega, rfl, rfl, rfl⟩ (fun m R w hI => ?_)
  clear h
  obtain ⟨j, cs, Ls, k, hm, h, hc, hL, hk1, hk2, h0, h1, h5⟩ := hI
  refine W.seq (W.seq (W.region rfl ?_))
  refine WL.p h Val.mv ?_
  refine WL.p h Val.mv ?_
  refine WL.p h (Val.len Tryz.underlying28 h0 ⟨_, _, rfl, Nat.le_refl _⟩) ?_
  refine WL.p h (Val.lt h5 rfl) ?_
  refine WL.dec (fun c1 => ?_) (fun c1 => ?_)
  · obtain ⟨p, hp⟩ : ∃ p, ps[j]? = some p := ⟨_, List.getElem?_eq_getElem (by omega)⟩
    have hpl := hls p (List.mem_of_getElem? hp)
    have hcl := hc.1
    have hc2 := cellsX_set hc j (.string (mt k))
    have hbp : (cs.set (j * 2) (.string (mt k)))[0 + j * 2 + 1 + 0]? = some (bsl p) := by
      have := hc2.2 j p hp
      rw [Nat.zero_add, Nat.add_zero]; exact this
    refine WL.nil ?_
    refine W.condT rfl ?_
    refine W.skip ?_
    refine W.seq (W.block ?_)
    refine W.seq (W.region rfl ?_)
    refine WL.p h Val.mv ?_
    refine WL.p h Val.mv ?_
    refine WL.p h Val.mv ?_
    refine WL.call C79 (args := [.int .i64 k]) (congrArg (fun x => [x]) h1) ((markTextB_calls F w h.sub k (by omega)).mono ?_)
    rintro e w' ⟨rfl, hE⟩
    have h := h.call hE
    refine ⟨_, rfl, ?_⟩
    refine WL.p h (Val.ix (i := j) Tryz.underlying28 T47z h0 h5 ⟨_, rfl⟩ (by omega)) ?_
    refine WL.p h (Val.fa O47_0z rfl) ?_
    refine WL.st 0 (v := .string (mt k)) h rfl T9 rfl rfl rfl (by simp [soff]; omega) (fun w h => ?_)
    have h : Hp w0 F0 F (.box b (cs.set (j * 2) (.string (mt k))) 47 :: Ls) w := h.cast (by simp [soff])
    refine WL.nil ?_
    refine W.seq (W.region rfl ?_)
    refine WL.p h Val.mv ?_
    refine WL.p h (Val.addi (c := k + 1) h1 rfl (by omega)) ?_
    refine WL.p h Val.as ?_
    refine WL.nil ?_
    refine W.region rfl ?_
    refine WL.p h Val.mv ?_
    refine WL.p h Val.mv ?_
    refine WL.p h (Val.ix (i := j) Tryz.underlying28 T47z h0 h5 ⟨_, rfl⟩ (by omega)) ?_
    refine WL.p h (Val.fa O47_1z rfl) ?_
    refine WL.p h (Val.fa O42_0 rfl) ?_
    refine WL.p h (Val.ld 0 A40 rfl rfl hbp) ?_
    refine WL.p h Val.mv ?_
    refine WL.call C53 (args := [bsl p, .int .i64 (k + 1)]) rfl ((markBox_at h (j + 1) (hL j p (Nat.le_refl _) hp) (by omega) hpl).mono ?_)
    rintro e w' ⟨rfl, c', h⟩
    refine ⟨_, rfl, ?_⟩
    refine WL.p h Val.as ?_
    refine WL.nil ?_
    have h : Hp w0 F0 F (.box b (cs.set (j * 2) (.string (mt k))) 47 :: Ls.set j c') w' := h
    refine W.region rfl ?_
    refine WL.p h Val.mv ?_
    refine WL.p h (Val.addi (c := ((j + 1 : Nat) : Int)) h5 rfl (by omega)) ?_
    refine WL.p h Val.as ?_
    refine WL.nil ?_
    exact ⟨m - 1, by omega, j + 1, _, Ls.set j c', k + 1 + 4 * (p.1.2.length : Int), by omega, h, hc2, fun i q hi hq => by rw [List.getElem?_set_ne (by omega)]; exact hL i q (by omega) hq, by omega, by omega, h0, rfl, rfl⟩
  · refine WL.nil ?_
    refine W.condF rfl ?_
    refine W.exit ?_
    refine W.seq (W.region rfl ?_)
    refine WL.p h Val.mv ?_
    refine WL.p h Val.as ?_
    refine WL.nil ?_
    refine W.ret ?_
    exact fin1 rfl h1 ⟨_, rfl, by omega, _, h⟩
end Go.Proofs.YtmiihhbgfijcmaaGreat.K

