/- The laws' helpers on values: sizes, copies, comparisons. -/
import Derived.Test.YtmiihhbgfijcmaaGreatKe
import Derived.Test.YtmiihhbgfijcmaaGreatKt
namespace Go.Proofs.YtmiihhbgfijcmaaGreat.K
open Go Go.RowKit
set_option linter.unusedVariables false
set_option linter.unusedSimpArgs false
set_option maxRecDepth 20000

theorem C68 : CF Tryz.prog 82 := ⟨_, Tryz.func82, rfl, rfl⟩
theorem C39 : CF Tryz.prog 56 := ⟨_, Tryz.func56, rfl, rfl⟩
theorem C15 : CF Tryz.prog 34 := ⟨_, Tryz.func34, rfl, rfl⟩
theorem C70 : CF Tryz.prog 83 := ⟨_, Tryz.func83, rfl, rfl⟩
theorem C41 : CF Tryz.prog 58 := ⟨_, Tryz.func58, rfl, rfl⟩
theorem C17 : CF Tryz.prog 42 := ⟨_, Tryz.func42, rfl, rfl⟩
theorem C71 : CF Tryz.prog 98 := ⟨_, Tryz.func98, rfl, rfl⟩
theorem C43 : CF Tryz.prog 81 := ⟨_, Tryz.func81, rfl, rfl⟩
theorem C19 : CF Tryz.prog 53 := ⟨_, Tryz.func53, rfl, rfl⟩

theorem szAtom_calls (F : Fz) (w : World) (hF : Sub F (hv w)) (a : At) (left : Int) (hl : 0 ≤ left ∧ left ≤ 1048576) (hs : a.t.size ≤ 9223372036854775807) :
    Calls Tryz.prog 82 #[.agg a.cells.toArray, .int .i64 left] w fun e w' => ∃ r : Int, e = .returned (.int .i64 r) ∧ Ext F w F w' ∧ -1 ≤ r ∧ (0 ≤ r → r + a.t.size ≤ left) := by
  refine calls 13 Tryz.func82 rfl rfl rfl ?_
  have h := Hp.start hF
  refine W.seq (W.region rfl ?_)
  refine WL.box h rfl (fun b1 w h => ?_)
  refine WL.p h Val.as ?_
  refine WL.nil ?_
  refine W.seq (W.region rfl ?_)
  refine WL.p h Val.mv ?_
  refine WL.p h (Val.fa O101_2 rfl) ?_
  refine WL.p h (Val.ld 0 A9 rfl rfl rfl) ?_
  refine WL.p h (Val.lenStr Tryz.underlying9 rfl) ?_
  refine WL.p h (Val.subi rfl rfl ⟨rfl, by omega, by omega⟩) ?_
  refine WL.p h Val.as ?_
  refine WL.nil ?_
  refine W.seq (W.seq (W.region rfl ?_))
  refine WL.p h Val.mv ?_
  refine WL.p h (Val.lt rfl rfl) ?_
  refine WL.dec (fun c => ?_) (fun c => ?_)
  · refine WL.nil ?_
    refine W.condT rfl ?_
    refine W.seq (W.region rfl ?_)
    refine WL.p h Val.as ?_
    refine WL.nil ?_
    refine W.ret ?_
    refine fin1 rfl rfl ?_
    exact ⟨_, rfl, h.toExt, by omega, by omega⟩
  · refine WL.nil ?_
    refine W.condF rfl ?_
    refine W.skip ?_
    refine W.seq (W.region rfl ?_)
    refine WL.p h Val.mv ?_
    refine WL.p h Val.as ?_
    refine WL.nil ?_
    refine W.ret ?_
    refine fin1 rfl rfl ?_
    exact ⟨_, rfl, h.toExt, by omega, by omega⟩

def szI (w0 : World) (F : Fz) (v : Value) (es : List At) (left : Int) (m : Nat) (R : Regs) (w : World) : Prop :=
  ∃ (i : Nat) (l : Int), m + i = es.length ∧ Hp w0 F F [] w ∧ 0 ≤ l ∧ l + es.length ≤ left ∧ (∀ e ∈ es.take i, e.t.size ≤ left) ∧ R 0 = v ∧ R 1 = .int .i64 l ∧ R 5 = .int .i64 (i : Int)
theorem szAtomS_calls (F : Fz) (w : World) (hF : Sub F (hv w)) (v : Value) (es : List At) (hr : FRow F v es.length 4 (rowA es)) (left : Int) (hl : 0 ≤ left ∧ left ≤ 1048576) (hs : ∀ e ∈ es, e.t.size ≤ 9223372036854775807) :
    Calls Tryz.prog 56 #[v, .int .i64 left] w fun e w' => ∃ r : Int, e = .returned (.int .i64 r) ∧ Ext F w F w' ∧ -1 ≤ r ∧ (0 ≤ r → r + es.length ≤ left ∧ ∀ e ∈ es, e.t.size ≤ left) := by
  refine calls 27 Tryz.func56 rfl rfl rfl ?_
  have h := Hp.start hF
  have hmax := hr.max
  refine W.seq (W.region rfl ?_)
  refine WL.p h Val.as ?_
  refine WL.nil ?_
  refine W.seq (W.region rfl ?_)
  refine WL.p h Val.mv ?_
  refine WL.p h Val.mv ?_
  refine WL.p h (Val.len Tryz.underlying36 rfl hr.val) ?_
  refine WL.p h (Val.subi rfl rfl ⟨rfl, by omega, by omega⟩) ?_
  refine WL.p h Val.as ?_
  refine WL.nil ?_
  refine W.seq (W.seq (W.region rfl ?_))
  refine WL.p h Val.mv ?_
  refine WL.p h (Val.lt rfl rfl) ?_
  refine WL.dec (fun c => ?_) (fun c => ?_)
  · refine WL.nil ?_
    refine W.condT rfl ?_
    refine W.seq (W.region rfl ?_)
    refine WL.p h Val.as ?_
    refine WL.nil ?_
    refine W.ret ?_
    refine fin1 rfl rfl ?_
    exact ⟨_, rfl, h.toExt, by omega, by omega⟩
  refine WL.nil ?_
  refine W.condF rfl ?_
  refine W.skip ?_
  refine W.seq (W.seq (W.region rfl ?_))
  refine WL.p h Val.as ?_
  refine WL.nil ?_
  refine W.block ?_
  refine W.loop (szI w F v es left) es.length ?_ (fun m R w hI => ?_)
  · exact ⟨0, left - es.length, by omega, h, by omega, by omega, by simp, rfl, rfl, rfl⟩
  clear h
  obtain ⟨i, l, hm, h, hl0, hl1, hts, h0, h1, h5⟩ := hI
  refine W.seq (W.seq (W.region rfl ?_))
  refine WL.p h Val.mv ?_
  refine WL.p h Val.mv ?_
  refine WL.p h (Val.len Tryz.underlying36 h0 hr.val) ?_
  refine WL.p h (Val.lt h5 rfl) ?_
  refine WL.dec (fun c2 => ?_) (fun c2 => ?_)
  · have hlt : i < es.length := by omega
    obtain ⟨a, ha⟩ : ∃ a, es[i]? = some a := ⟨_, List.getElem?_eq_getElem hlt⟩
    refine WL.nil ?_
    refine W.condT rfl ?_
    refine W.skip ?_
    refine W.seq (W.block ?_)
    refine W.seq (W.region rfl ?_)
    refine WL.p h Val.mv ?_
    refine WL.p h Val.mv ?_
    refine WL.p h (Val.ix Tryz.underlying36 T101 h0 h5 (hr.slice (by omega)) hlt) ?_
    refine WL.p h (Val.ldRS A101 T101 hr rfl rfl (cs := a.cells) (fun j u hj => flat_get At.cells At.cells_len es i j a u ha hj)) ?_
    refine WL.p h Val.mv ?_
    refine WL.call C68 (args := [.agg a.cells.toArray, .int .i64 l]) (by simp only [List.map_cons, List.map_nil, ev, updO, upd, h1]; rfl) ((szAtom_calls F w h.sub a l (by omega) (hs a (List.mem_of_getElem? ha))).mono ?_)
    rintro e w' ⟨r, rfl, hE, hr1, hr2⟩
    have h := h.call hE
    refine ⟨_, rfl, ?_⟩
    refine WL.p h Val.as ?_
    refine WL.nil ?_
    refine W.seq (W.region rfl ?_)
    refine WL.p h Val.mv ?_
    refine WL.p h (Val.lt rfl rfl) ?_
    refine WL.dec (fun c3 => ?_) (fun c3 => ?_)
    · refine WL.nil ?_
      refine W.condT rfl ?_
      refine W.seq (W.region rfl ?_)
      refine WL.p h Val.as ?_
      refine WL.nil ?_
      refine W.ret ?_
      refine fin1 rfl rfl ?_
      exact ⟨_, rfl, h.toExt, by omega, by omega⟩
    refine WL.nil ?_
    refine W.condF rfl ?_
    refine W.skip ?_
    refine W.region rfl ?_
    refine WL.p h Val.mv ?_
    refine WL.p h (Val.addi (c := ((i + 1 : Nat) : Int)) h5 rfl (by omega)) ?_
    refine WL.p h Val.as ?_
    refine WL.nil ?_
    refine ⟨m - 1, by omega, i + 1, r, by omega, h, by omega, by omega, fun e he => ?_, h0, rfl, rfl⟩
    rw [List.take_succ_eq_append_getElem hlt] at he
    rw [List.getElem?_eq_getElem hlt] at ha
    rw [Option.some.inj ha] at he
    rcases List.mem_append.1 he with he | he
    · exact hts e he
    · rw [List.mem_singleton.1 he]; omega
  · refine WL.nil ?_
    refine W.condF rfl ?_
    refine W.exit ?_
    refine W.seq (W.region rfl ?_)
    refine WL.p h Val.mv ?_
    refine WL.p h Val.as ?_
    refine WL.nil ?_
    refine W.ret ?_
    refine fin1 rfl h1 ⟨_, rfl, h.toExt, by omega, fun _ => ⟨hl1, fun e he => hts e ?_⟩⟩
    rw [List.take_of_length_le (by omega)]; exact he

theorem szValue_calls (F : Fz) (w : World) (hF : Sub F (hv w)) (v : Value) (es : List At) (hr : FRow F v es.length 4 (rowA es)) (left : Int) (hl : 0 ≤ left ∧ left ≤ 1048576) (hs : ∀ e ∈ es, e.t.size ≤ 9223372036854775807) :
    Calls Tryz.prog 34 #[.agg #[v], .int .i64 left] w fun e w' => ∃ r : Int, e = .returned (.int .i64 r) ∧ Ext F w F w' ∧ -1 ≤ r ∧ (0 ≤ r → r + es.length ≤ left ∧ ∀ e ∈ es, e.t.size ≤ left) := by
  refine calls 12 Tryz.func34 rfl rfl rfl ?_
  have h := Hp.start hF
  refine W.seq (W.region rfl ?_)
  refine WL.box h rfl (fun b1 w h => ?_)
  refine WL.p h Val.as ?_
  refine WL.nil ?_
  refine W.seq (W.region rfl ?_)
  refine WL.p h (Val.fa O37_0 rfl) ?_
  refine WL.p h (Val.ld 0 A35 rfl rfl rfl) ?_
  refine WL.p h Val.mv ?_
  refine WL.call C39 (args := [v, .int .i64 left]) rfl ((szAtomS_calls F w h.sub v es hr left hl hs).mono ?_)
  rintro e w' ⟨r, rfl, hE, hr1, hr2⟩
  have h := h.call hE
  refine ⟨_, rfl, ?_⟩
  refine WL.p h Val.as ?_
  refine WL.nil ?_
  refine W.seq (W.seq (W.region rfl ?_))
  refine WL.p h Val.mv ?_
  refine WL.p h (Val.lt rfl rfl) ?_
  refine WL.dec (fun c3 => ?_) (fun c3 => ?_)
  · refine WL.nil ?_
    refine W.condT rfl ?_
    refine W.seq (W.region rfl ?_)
    refine WL.p h Val.as ?_
    refine WL.nil ?_
    refine W.ret ?_
    exact fin1 rfl rfl ⟨_, rfl, h.toExt, by omega, by omega⟩
  refine WL.nil ?_
  refine W.condF rfl ?_
  refine W.skip ?_
  refine W.seq (W.region rfl ?_)
  refine WL.p h Val.mv ?_
  refine WL.p h Val.as ?_
  refine WL.nil ?_
  refine W.ret ?_
  exact fin1 rfl rfl ⟨_, rfl, h.toExt, by omega, hr2⟩

theorem toAtom_calls (F : Fz) (w : World) (hF : Sub F (hv w)) (a : At) :
    Calls Tryz.prog 83 #[.agg a.cells.toArray] w fun e w' => e = .returned (.agg a.cells.toArray) ∧ Ext F w F w' := by
  refine calls 17 Tryz.func83 rfl rfl rfl ?_
  have h := Hp.start hF
  refine W.seq (W.region rfl ?_)
  refine WL.box h rfl (fun b1 w h => ?_)
  refine WL.alloc h T79 (fun b2 w h => ?_)
  refine WL.nil ?_
  refine W.seq (W.region rfl ?_)
  refine WL.alloc h T79 (fun b3 w h => ?_)
  refine WL.nil ?_
  refine W.seq (W.region rfl ?_)
  refine WL.p h (Val.fa O101_0 rfl) ?_
  refine WL.p h (Val.ld 0 A3 rfl rfl rfl) ?_
  refine WL.p h (Val.fa O79_0 rfl) ?_
  refine WL.st 2 (v := .int .i64 a.k) h rfl T3 rfl rfl rfl rfl (fun w h => ?_)
  refine WL.nil ?_
  refine W.seq (W.region rfl ?_)
  refine WL.p h (Val.fa O101_1 rfl) ?_
  refine WL.p h (Val.ld 0 A2 rfl rfl rfl) ?_
  refine WL.p h (Val.fa O79_1 rfl) ?_
  refine WL.st 2 (v := .int .i64 a.n) h rfl T2 rfl rfl rfl rfl (fun w h => ?_)
  refine WL.nil ?_
  refine W.seq (W.region rfl ?_)
  refine WL.p h (Val.fa O101_2 rfl) ?_
  refine WL.p h (Val.ld 0 A9 rfl rfl rfl) ?_
  refine WL.p h (Val.fa O79_2 rfl) ?_
  refine WL.st 2 (v := .string a.t) h rfl T9 rfl rfl rfl rfl (fun w h => ?_)
  refine WL.nil ?_
  refine W.seq (W.region rfl ?_)
  refine WL.p h (Val.fa O101_3 rfl) ?_
  refine WL.p h (Val.ld 0 A3 rfl rfl rfl) ?_
  refine WL.p h (Val.fa O79_3 rfl) ?_
  refine WL.st 2 (v := .int .i64 a.c) h rfl T3 rfl rfl rfl rfl (fun w h => ?_)
  refine WL.nil ?_
  refine W.seq (W.region rfl ?_)
  refine WL.p h (Val.ldS 2 A79 T79 rfl rfl rfl) ?_
  refine WL.stS 1 h rfl T79 rfl (vs := a.cells) rfl (by simp [At.cells, Value.oneCell']) rfl rfl (fun w h => ?_)
  refine WL.nil ?_
  refine W.ret ?_
  exact finBox h 1 rfl rfl rfl A79 T79 rfl ⟨rfl, h.toExt⟩

def zAt : At := ⟨0, 0, ⟨#[]⟩, 0⟩
theorem made_At (n : Nat) : (madeCells (Value.agg #[(.int .i64 0), (.int .i64 0), (.string ⟨#[]⟩), (.int .i64 0)]).cells (n * 4)).toList = rowA (List.replicate n zAt) := by
  exact made_flat At.cells At.cells_len (by decide) zAt _ rfl n
def toI (w0 : World) (F : Fz) (v : Value) (es : List At) (b : Nat) (m : Nat) (R : Regs) (w : World) : Prop :=
  ∃ (i : Nat), m + i = es.length ∧ Hp w0 F F [.box b (rowA (es.take i) ++ rowA (List.replicate (es.length - i) zAt)) 78] w ∧ R 0 = v ∧ R 3 = .slice (some ⟨b, 0, none⟩) es.length es.length ∧ R 4 = .int .i64 (i : Int)
theorem rowA_len (es : List At) : (rowA es).length = es.length * 4 := flat_len At.cells At.cells_len es
theorem at_one (a : At) : ∀ v ∈ a.cells, v.oneCell' = true := by simp [At.cells, Value.oneCell']
theorem toAtomS_calls (F : Fz) (w0 : World) (hF : Sub F (hv w0)) (v : Value) (es : List At) (hr : FRow F v es.length 4 (rowA es)) (hl : es.length ≤ 1048576) :
    Calls Tryz.prog 58 #[v] w0 fun e w' => ∃ b, e = .returned (.slice (some ⟨b, 0, none⟩) es.length es.length) ∧ Ext F w0 F w' ∧ w0.heap.size ≤ b ∧ w'.heap[b]? = some (.cells (rowA es).toArray 78 (0, 0)) := by
  refine calls 23 Tryz.func58 rfl rfl rfl ?_
  have h := Hp.start hF
  refine W.seq (W.region rfl ?_)
  refine WL.p h Val.as ?_
  refine WL.nil ?_
  refine W.seq (W.region rfl ?_)
  refine WL.p h Val.mv ?_
  refine WL.p h (Val.len Tryz.underlying36 rfl hr.val) ?_
  refine WL.make h Tryz.underlying43 T79 rfl rfl (by omega) (by omega) (fun b w h => ?_)
  refine WL.p h Val.as ?_
  refine WL.nil ?_
  refine W.seq (W.seq (W.region rfl ?_))
  refine WL.p h Val.as ?_
  refine WL.nil ?_
  refine W.block ?_
  refine W.loop (toI w0 F v es b) es.length ?_ (fun m R w hI => ?_)
  · exact ⟨0, by omega, h.cast (by rw [made_At]; rfl), rfl, rfl, rfl⟩
  clear h
  obtain ⟨i, hm, h, h0, h3, h4⟩ := hI
  refine W.seq (W.seq (W.region rfl ?_))
  refine WL.p h Val.mv ?_
  refine WL.p h Val.mv ?_
  refine WL.p h (Val.len Tryz.underlying36 h0 hr.val) ?_
  refine WL.p h (Val.lt h4 rfl) ?_
  refine WL.dec (fun c2 => ?_) (fun c2 => ?_)
  · have hlt : i < es.length := by omega
    obtain ⟨a, ha⟩ : ∃ a, es[i]? = some a := ⟨_, List.getElem?_eq_getElem hlt⟩
    refine WL.nil ?_
    refine W.condT rfl ?_
    refine W.skip ?_
    refine W.seq (W.block ?_)
    refine W.region rfl ?_
    refine WL.p h Val.mv ?_
    refine WL.p h Val.mv ?_
    refine WL.p h Val.mv ?_
    refine WL.p h Val.mv ?_
    refine WL.p h (Val.ix Tryz.underlying36 T101 h0 h4 (hr.slice (by omega)) hlt) ?_
    refine WL.p h (Val.ldRS A101 T101 hr rfl rfl (cs := a.cells) (fun j u hj => flat_get At.cells At.cells_len es i j a u ha hj)) ?_
    refine WL.call C70 (args := [.agg a.cells.toArray]) rfl ((toAtom_calls F w h.sub a).mono ?_)
    rintro e w' ⟨rfl, hE⟩
    have h := h.call hE
    refine ⟨_, rfl, ?_⟩
    refine WL.p h (Val.ix Tryz.underlying43 T79 h3 h4 ⟨_, rfl⟩ hlt) ?_
    refine WL.stA 0 h rfl T79 rfl (vs := a.cells) rfl (at_one a) rfl (by simp [sblk, soff, rowA_len, At.cells]; omega) (fun w h => ?_)
    refine WL.nil ?_
    refine W.region rfl ?_
    refine WL.p h Val.mv ?_
    refine WL.p h (Val.addi (c := ((i + 1 : Nat) : Int)) h4 rfl (by omega)) ?_
    refine WL.p h Val.as ?_
    refine WL.nil ?_
    refine ⟨m - 1, by omega, i + 1, by omega, h.cast ?_, h0, h3, rfl⟩
    have := fill_step At.cells At.cells_len zAt es i es.length a ha hlt
    simp only [sblk, soff, Nat.zero_add, At.cells_len, List.set_cons_zero] at this ⊢
    rw [rowA, rowA, rowA, rowA, ← this]
  · have hi : i = es.length := by omega
    refine WL.nil ?_
    refine W.condF rfl ?_
    refine W.exit ?_
    refine W.seq (W.region rfl ?_)
    refine WL.p h Val.mv ?_
    refine WL.p h Val.as ?_
    refine WL.nil ?_
    refine W.ret ?_
    refine fin1 rfl h3 ⟨b, rfl, h.toExt, (h.fresh 0 _ b rfl rfl).1, ?_⟩
    have := h.holds 0 _ rfl
    rw [hi, List.take_length, Nat.sub_self] at this
    simpa [Ch.holds, rowA] using this

theorem toValue_calls (F : Fz) (w : World) (hF : Sub F (hv w)) (v : Value) (es : List At) (hr : FRow F v es.length 4 (rowA es)) (hl : es.length ≤ 1048576) :
    Calls Tryz.prog 42 #[.agg #[v]] w fun e w' => ∃ b, e = .returned (.agg #[.slice (some ⟨b, 0, none⟩) es.length es.length]) ∧ Ext F w F w' ∧ w.heap.size ≤ b ∧ w'.heap[b]? = some (.cells (rowA es).toArray 78 (0, 0)) := by
  refine calls 9 Tryz.func42 rfl rfl rfl ?_
  have h := Hp.start hF
  refine W.seq (W.region rfl ?_)
  refine WL.box h rfl (fun b1 w h => ?_)
  refine WL.alloc h T42 (fun b2 w h => ?_)
  refine WL.nil ?_
  refine W.seq (W.region rfl ?_)
  refine WL.alloc h T42 (fun b3 w h => ?_)
  refine WL.nil ?_
  refine W.seq (W.region rfl ?_)
  refine WL.p h (Val.fa O37_0 rfl) ?_
  refine WL.p h (Val.ld 0 A35 rfl rfl rfl) ?_
  refine WL.call C41 (args := [v]) rfl ((toAtomS_calls F w h.sub v es hr hl).mono ?_)
  rintro e w' ⟨b, rfl, hE, hb, hcell⟩
  have h := h.gain (.box b (rowA es) 78) hE.below hcell (fun b' hb' => by simp only [Ch.blk, Option.some.injEq] at hb'; omega)
  refine ⟨_, rfl, ?_⟩
  refine WL.p h (Val.fa O42_0 rfl) ?_
  refine WL.st 2 (v := (.slice (some ⟨b, 0, none⟩) es.length es.length)) h rfl T40 rfl rfl rfl rfl (fun w h => ?_)
  refine WL.nil ?_
  refine W.seq (W.region rfl ?_)
  refine WL.p h (Val.ldS 2 A42 T42 rfl rfl rfl) ?_
  refine WL.stS 1 h rfl T42 rfl (vs := [.slice (some ⟨b, 0, none⟩) es.length es.length]) rfl (by simp [Value.oneCell']) rfl rfl (fun w h => ?_)
  refine WL.nil ?_
  refine W.ret ?_
  refine finBox h 1 rfl rfl rfl A42 T42 rfl ⟨b, rfl, h.toExt, (h.fresh 3 _ b rfl rfl).1, h.holds 3 _ rfl⟩

theorem eqAtom_calls (F : Fz) (w : World) (hF : Sub F (hv w)) (x y : At) :
    Calls Tryz.prog 98 #[.agg x.cells.toArray, .agg y.cells.toArray] w fun e w' => e = .returned (.bool (decide (x = y))) ∧ Ext F w F w' := by
  refine calls 25 Tryz.func98 rfl rfl rfl ?_
  have h := Hp.start hF
  have hno : ∀ {p : Prop} [Decidable p], (x = y → p) → ¬ p → ∀ {w0 w1}, Ext F w0 F w1 → Ending.returned (Value.bool false) = .returned (.bool (decide (x = y))) ∧ Ext F w0 F w1 := fun hp hn _ _ hE => ⟨by rw [decide_eq_false (fun e => hn (hp e))], hE⟩
  refine W.seq (W.region rfl ?_)
  refine WL.box h rfl (fun b1 w h => ?_)
  refine WL.box h rfl (fun b2 w h => ?_)
  refine WL.p h Val.as ?_
  refine WL.nil ?_
  refine W.seq (W.seq (W.region rfl ?_))
  refine WL.p h (Val.fa O79_0 rfl) ?_
  refine WL.p h (Val.ld 0 A3 rfl rfl rfl) ?_
  refine WL.p h (Val.fa O79_0 rfl) ?_
  refine WL.p h (Val.ld 1 A3 rfl rfl rfl) ?_
  refine WL.p h (Val.ne rfl rfl) ?_
  refine WL.dec (fun c1 => ?_) (fun c1 => ?_)
  · refine WL.nil ?_
    refine W.condT rfl ?_
    refine W.seq (W.region rfl ?_)
    refine WL.p h Val.as ?_
    refine WL.nil ?_
    refine W.ret ?_
    exact fin1 rfl rfl (hno (p := x.k = y.k) (fun e => by rw [e]) c1 h.toExt)
  refine WL.nil ?_
  refine W.condF rfl ?_
  refine W.skip ?_
  refine W.seq (W.seq (W.region rfl ?_))
  refine WL.p h (Val.fa O79_1 rfl) ?_
  refine WL.p h (Val.ld 0 A2 rfl rfl rfl) ?_
  refine WL.p h (Val.fa O79_1 rfl) ?_
  refine WL.p h (Val.ld 1 A2 rfl rfl rfl) ?_
  refine WL.p h (Val.ne rfl rfl) ?_
  refine WL.dec (fun c2 => ?_) (fun c2 => ?_)
  · refine WL.nil ?_
    refine W.condT rfl ?_
    refine W.seq (W.region rfl ?_)
    refine WL.p h Val.as ?_
    refine WL.nil ?_
    refine W.ret ?_
    exact fin1 rfl rfl (hno (p := x.n = y.n) (fun e => by rw [e]) c2 h.toExt)
  refine WL.nil ?_
  refine W.condF rfl ?_
  refine W.skip ?_
  refine W.seq (W.seq (W.region rfl ?_))
  refine WL.p h (Val.fa O79_2 rfl) ?_
  refine WL.p h (Val.ld 0 A9 rfl rfl rfl) ?_
  refine WL.p h (Val.fa O79_2 rfl) ?_
  refine WL.p h (Val.ld 1 A9 rfl rfl rfl) ?_
  refine WL.p h (Val.sNe rfl rfl) ?_
  refine WL.dec (fun c3 => ?_) (fun c3 => ?_)
  · refine WL.nil ?_
    refine W.condT rfl ?_
    refine W.seq (W.region rfl ?_)
    refine WL.p h Val.as ?_
    refine WL.nil ?_
    refine W.ret ?_
    exact fin1 rfl rfl (hno (p := x.t = y.t) (fun e => by rw [e]) c3 h.toExt)
  refine WL.nil ?_
  refine W.condF rfl ?_
  refine W.skip ?_
  refine W.seq (W.seq (W.region rfl ?_))
  refine WL.p h (Val.fa O79_3 rfl) ?_
  refine WL.p h (Val.ld 0 A3 rfl rfl rfl) ?_
  refine WL.p h (Val.fa O79_3 rfl) ?_
  refine WL.p h (Val.ld 1 A3 rfl rfl rfl) ?_
  refine WL.p h (Val.ne rfl rfl) ?_
  refine WL.dec (fun c4 => ?_) (fun c4 => ?_)
  · refine WL.nil ?_
    refine W.condT rfl ?_
    refine W.seq (W.region rfl ?_)
    refine WL.p h Val.as ?_
    refine WL.nil ?_
    refine W.ret ?_
    exact fin1 rfl rfl (hno (p := x.c = y.c) (fun e => by rw [e]) c4 h.toExt)
  refine WL.nil ?_
  refine W.condF rfl ?_
  refine W.skip ?_
  refine W.seq (W.region rfl ?_)
  refine WL.p h Val.as ?_
  refine WL.nil ?_
  refine W.ret ?_
  refine fin1 (v := .bool true) rfl rfl ⟨?_, h.toExt⟩
  have : x = y := by
    cases x; cases y; simp only [Decidable.not_not] at *; subst c1; subst c2; subst c3; subst c4; rfl
  simp [this]

def eqI (w0 : World) (F : Fz) (v u : Value) (es fs : List At) (m : Nat) (R : Regs) (w : World) : Prop :=
  ∃ (i : Nat), m + i = es.length ∧ Hp w0 F F [] w ∧ es.take i = fs.take i ∧ R 0 = v ∧ R 1 = u ∧ R 5 = .int .i64 (i : Int)
theorem eqAtomS_calls (F : Fz) (w0 : World) (hF : Sub F (hv w0)) (v u : Value) (es fs : List At) (hr : FRow F v es.length 4 (rowA es)) (hs : FRow F u fs.length 4 (rowA fs)) :
    Calls Tryz.prog 81 #[v, u] w0 fun e w' => e = .returned (.bool (decide (es = fs))) ∧ Ext F w0 F w' := by
  refine calls 27 Tryz.func81 rfl rfl rfl ?_
  have h := Hp.start hF
  have hmax := hr.max
  refine W.seq (W.region rfl ?_)
  refine WL.p h Val.as ?_
  refine WL.nil ?_
  refine W.seq (W.seq (W.region rfl ?_))
  refine WL.p h Val.mv ?_
  refine WL.p h (Val.len Tryz.underlying43 rfl hr.val) ?_
  refine WL.p h Val.mv ?_
  refine WL.p h (Val.len Tryz.underlying43 rfl hs.val) ?_
  refine WL.p h (Val.ne rfl rfl) ?_
  refine WL.dec (fun c1 => ?_) (fun c1 => ?_)
  · refine WL.nil ?_
    refine W.condT rfl ?_
    refine W.seq (W.region rfl ?_)
    refine WL.p h Val.as ?_
    refine WL.nil ?_
    refine W.ret ?_
    exact fin1 (v := .bool false) rfl rfl ⟨by rw [decide_eq_false (fun e => by rw [e] at c1; exact c1 rfl)], h.toExt⟩
  refine WL.nil ?_
  refine W.condF rfl ?_
  refine W.skip ?_
  have hlen : es.length = fs.length := by omega
  refine W.seq (W.seq (W.region rfl ?_))
  refine WL.p h Val.as ?_
  refine WL.nil ?_
  refine W.block ?_
  refine W.loop (eqI w0 F v u es fs) es.length ?_ (fun m R w hI => ?_)
  · exact ⟨0, by omega, h, rfl, rfl, rfl, rfl⟩
  clear h
  obtain ⟨i, hm, h, heq, h0, h1, h5⟩ := hI
  refine W.seq (W.seq (W.region rfl ?_))
  refine WL.p h Val.mv ?_
  refine WL.p h Val.mv ?_
  refine WL.p h (Val.len Tryz.underlying43 h0 hr.val) ?_
  refine WL.p h (Val.lt h5 rfl) ?_
  refine WL.dec (fun c2 => ?_) (fun c2 => ?_)
  · have hlt : i < es.length := by omega
    obtain ⟨a, ha⟩ : ∃ a, es[i]? = some a := ⟨_, List.getElem?_eq_getElem hlt⟩
    obtain ⟨b, hb⟩ : ∃ b, fs[i]? = some b := ⟨_, List.getElem?_eq_getElem (by omega)⟩
    refine WL.nil ?_
    refine W.condT rfl ?_
    refine W.skip ?_
    refine W.seq (W.block ?_)
    refine W.seq (W.draw (fun w => Hp w0 F F [] w) [] 10 (by kernel_rfl) rfl rfl ?_)
    have hS := h.drewN 1
    refine WD.take 0 rfl (by kernel_rfl) (fun _ _ _ h => fin_panic h) hS Val.mv ?_
    refine WD.take 1 rfl (by kernel_rfl) (fun _ _ _ h => fin_panic h) hS Val.mv ?_
    refine WD.take 2 rfl (by kernel_rfl) (fun _ _ _ h => fin_panic h) hS (Val.ix Tryz.underlying43 T79 h0 h5 (hr.slice (by omega)) hlt) ?_
    refine WD.take 3 rfl (by kernel_rfl) (fun _ _ _ h => fin_panic h) hS (Val.ldRS A79 T79 hr rfl rfl (cs := a.cells) (fun j u hj => flat_get At.cells At.cells_len es i j a u ha hj)) ?_
    refine WD.take 4 rfl (by kernel_rfl) (fun _ _ _ h => fin_panic h) hS Val.mv ?_
    refine WD.take 5 rfl (by kernel_rfl) (fun _ _ _ h => fin_panic h) hS Val.mv ?_
    refine WD.take 6 rfl (by kernel_rfl) (fun _ _ _ h => fin_panic h) hS (Val.ix Tryz.underlying43 T79 h1 h5 (hs.slice (by omega)) (by omega)) ?_
    refine WD.take 7 rfl (by kernel_rfl) (fun _ _ _ h => fin_panic h) hS (Val.ldRS A79 T79 hs rfl rfl (cs := b.cells) (fun j u hj => flat_get At.cells At.cells_len fs i j b u hb hj)) ?_
    refine WD.one 8 rfl (by kernel_rfl) ?_
    refine WL.call C71 (args := [.agg a.cells.toArray, .agg b.cells.toArray]) rfl ((eqAtom_calls F _ hS.sub a b).mono ?_)
    rintro e w' ⟨rfl, hE⟩
    have h := hS.call hE
    refine ⟨_, rfl, ?_⟩
    refine WL.nil ?_
    refine ⟨h, ?_⟩
    have hS := h
    refine WD.take 9 rfl (by kernel_rfl) (fun _ _ _ h => fin_panic h) hS (Val.not rfl) ?_
    refine WD.nil (by kernel_rfl) ?_
    by_cases hab : a = b
    · refine W.condF (show Value.bool (!decide (_ = _)) = _ by simp [hab]) ?_
      refine W.skip ?_
      refine W.region rfl ?_
      refine WL.p h Val.mv ?_
      refine WL.p h (Val.addi (c := ((i + 1 : Nat) : Int)) h5 rfl (by omega)) ?_
      refine WL.p h Val.as ?_
      refine WL.nil ?_
      refine ⟨m - 1, by omega, i + 1, by omega, h, ?_, h0, h1, rfl⟩
      rw [List.take_succ_eq_append_getElem hlt, List.take_succ_eq_append_getElem (by omega), heq]
      rw [List.getElem?_eq_getElem hlt] at ha
      rw [List.getElem?_eq_getElem (by omega)] at hb
      rw [Option.some.inj ha, Option.some.inj hb, hab]
    · refine W.condT (show Value.bool (!decide (_ = _)) = _ by simp [hab]) ?_
      refine W.seq (W.region rfl ?_)
      refine WL.p h Val.as ?_
      refine WL.nil ?_
      refine W.ret ?_
      have hne : es ≠ fs := by intro e; subst e; rw [ha] at hb; exact hab (Option.some.inj hb)
      exact fin1 (v := .bool false) rfl rfl ⟨by simp [hne], h.toExt⟩
  · refine WL.nil ?_
    refine W.condF rfl ?_
    refine W.exit ?_
    refine W.seq (W.region rfl ?_)
    refine WL.p h Val.as ?_
    refine WL.nil ?_
    refine W.ret ?_
    refine fin1 (v := .bool true) rfl rfl ⟨?_, h.toExt⟩
    rw [List.take_of_length_le (by omega), List.take_of_length_le (by omega)] at heq
    simp [heq]

theorem eqValue_calls (F : Fz) (w0 : World) (hF : Sub F (hv w0)) (v u : Value) (es fs : List At) (hr : FRow F v es.length 4 (rowA es)) (hs : FRow F u fs.length 4 (rowA fs)) :
    Calls Tryz.prog 53 #[.agg #[v], .agg #[u]] w0 fun e w' => e = .returned (.bool (decide (es = fs))) ∧ Ext F w0 F w' := by
  refine calls 11 Tryz.func53 rfl rfl rfl ?_
  have h := Hp.start hF
  refine W.seq (W.region rfl ?_)
  refine WL.box h rfl (fun b1 w h => ?_)
  refine WL.box h rfl (fun b2 w h => ?_)
  refine WL.p h Val.as ?_
  refine WL.nil ?_
  refine W.seq (W.seq (W.region rfl ?_))
  refine WL.p h (Val.fa O42_0 rfl) ?_
  refine WL.p h (Val.ld 0 A40 rfl rfl rfl) ?_
  refine WL.p h (Val.fa O42_0 rfl) ?_
  refine WL.p h (Val.ld 1 A40 rfl rfl rfl) ?_
  refine WL.call C43 (args := [v, u]) rfl ((eqAtomS_calls F w h.sub v u es fs hr hs).mono ?_)
  rintro e w' ⟨rfl, hE⟩
  have h := h.call hE
  refine ⟨_, rfl, ?_⟩
  refine WL.p h (Val.not rfl) ?_
  refine WL.nil ?_
  by_cases hab : es = fs
  · refine W.condF (show Value.bool (!decide (_ = _)) = _ by simp [hab]) ?_
    refine W.skip ?_
    refine W.seq (W.region rfl ?_)
    refine WL.p h Val.as ?_
    refine WL.nil ?_
    refine W.ret ?_
    exact fin1 (v := .bool true) rfl rfl ⟨by simp [hab], h.toExt⟩
  · refine W.condT (show Value.bool (!decide (_ = _)) = _ by simp [hab]) ?_
    refine W.seq (W.region rfl ?_)
    refine WL.p h Val.as ?_
    refine WL.nil ?_
    refine W.ret ?_
    exact fin1 (v := .bool false) rfl rfl ⟨by simp [hab], h.toExt⟩
end Go.Proofs.YtmiihhbgfijcmaaGreat.K


