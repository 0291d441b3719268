/- The laws' helpers on worlds: sizes, copies, comparisons. -/
import Derived.Test.YtmiihhbgfijcmaaVw
namespace Go.Proofs.Ytmiihhbgfijcmaa.K
open Go Go.RowKit
set_option linter.unusedVariables false
set_option linter.unusedSimpArgs false
set_option maxRecDepth 20000
structure Fl where
  name : ByteArray
  text : ByteArray
instance : DecidableEq Fl := fun a b => if h : a.name = b.name ∧ a.text = b.text then isTrue (by cases a; cases b; simp_all) else isFalse (by rintro rfl; exact h ⟨rfl, rfl⟩)
def Fl.cells (f : Fl) : List Value := [.string f.name, .string f.text]
def rowF (fs : List Fl) : List Value := fs.flatMap Fl.cells
theorem Fl.len (f : Fl) : f.cells.length = 2 := rfl
theorem rowF_len (fs : List Fl) : (rowF fs).length = fs.length * 2 := flat_len Fl.cells Fl.len fs
theorem fl_one (f : Fl) : ∀ v ∈ f.cells, v.oneCell' = true := by simp [Fl.cells, Value.oneCell']
def sc (s : ByteArray) : List Value := [.string s]
theorem sc_len (s : ByteArray) : (sc s).length = 1 := rfl
def rowS (ns : List ByteArray) : List Value := ns.flatMap sc
theorem rowS_len (ns : List ByteArray) : (rowS ns).length = ns.length := by rw [rowS, flat_len sc sc_len, Nat.mul_one]
theorem C10 : CF Try.prog 10 := ⟨_, Try.func10, rfl, rfl⟩
theorem C30 : CF Try.prog 30 := ⟨_, Try.func30, rfl, rfl⟩
theorem C31 : CF Try.prog 31 := ⟨_, Try.func31, rfl, rfl⟩
theorem C62 : CF Try.prog 62 := ⟨_, Try.func62, rfl, rfl⟩
theorem C12 : CF Try.prog 12 := ⟨_, Try.func12, rfl, rfl⟩
theorem C34 : CF Try.prog 34 := ⟨_, Try.func34, rfl, rfl⟩
theorem C35 : CF Try.prog 35 := ⟨_, Try.func35, rfl, rfl⟩
theorem C64 : CF Try.prog 64 := ⟨_, Try.func64, rfl, rfl⟩
theorem C14 : CF Try.prog 14 := ⟨_, Try.func14, rfl, rfl⟩
theorem C37 : CF Try.prog 37 := ⟨_, Try.func37, rfl, rfl⟩
theorem C38 : CF Try.prog 38 := ⟨_, Try.func38, rfl, rfl⟩
theorem C67 : CF Try.prog 67 := ⟨_, Try.func67, rfl, rfl⟩
theorem C11 : CF Try.prog 11 := ⟨_, Try.func11, rfl, rfl⟩
theorem C13 : CF Try.prog 13 := ⟨_, Try.func13, rfl, rfl⟩
theorem C32 : CF Try.prog 32 := ⟨_, Try.func32, rfl, rfl⟩
theorem C33 : CF Try.prog 33 := ⟨_, Try.func33, rfl, rfl⟩
theorem C63 : CF Try.prog 63 := ⟨_, Try.func63, rfl, rfl⟩
theorem C36 : CF Try.prog 36 := ⟨_, Try.func36, rfl, rfl⟩
theorem C65 : CF Try.prog 65 := ⟨_, Try.func65, rfl, rfl⟩
theorem C66 : CF Try.prog 66 := ⟨_, Try.func66, rfl, rfl⟩

theorem szFile_calls (F : Fz) (w : World) (hF : Sub F (hv w)) (f : Fl) (left : Int) (hl : 0 ≤ left ∧ left ≤ 1048576) (hs : f.name.size ≤ 9223372036854775807 ∧ f.text.size ≤ 9223372036854775807) :
    Calls Try.prog 62 #[.agg f.cells.toArray, .int .i64 left] w fun e w' => ∃ r : Int, e = .returned (.int .i64 r) ∧ Ext F w F w' ∧ -1 ≤ r ∧ r ≤ left := by
  refine calls 20 Try.func62 rfl rfl rfl ?_
  have h := Hp.start hF
  refine W.seq (W.region rfl ?_)
  refine WL.box h rfl (fun b1 w h => ?_)
  refine WL.p h Val.as ?_
  refine WL.nil ?_
  refine W.seq (W.region rfl ?_)
  refine WL.p h Val.mv ?_
  refine WL.p h (Val.fa O95_0 rfl) ?_
  refine WL.p h (Val.ld 0 A9 rfl rfl rfl) ?_
  refine WL.p h (Val.lenStr Try.underlying9 rfl) ?_
  refine WL.p h (Val.subi rfl rfl ⟨rfl, by omega, by omega⟩) ?_
  refine WL.p h Val.as ?_
  refine WL.nil ?_
  refine W.seq (W.seq (W.region rfl ?_))
  refine WL.p h Val.mv ?_
  refine WL.p h (Val.lt rfl rfl) ?_
  refine WL.dec (fun c => ?_) (fun c => ?_)
  · refine WL.nil ?_
    refine W.condT rfl ?_
    refine W.seq (W.region rfl ?_)
    refine WL.p h Val.as ?_
    refine WL.nil ?_
    refine W.ret ?_
    exact fin1 rfl rfl ⟨_, rfl, h.toExt, by omega, by omega⟩
  refine WL.nil ?_
  refine W.condF rfl ?_
  refine W.skip ?_
  refine W.seq (W.region rfl ?_)
  refine WL.p h Val.mv ?_
  refine WL.p h (Val.fa O95_1 rfl) ?_
  refine WL.p h (Val.ld 0 A9 rfl rfl rfl) ?_
  refine WL.p h (Val.lenStr Try.underlying9 rfl) ?_
  refine WL.p h (Val.subi rfl rfl ⟨rfl, by omega, by omega⟩) ?_
  refine WL.p h Val.as ?_
  refine WL.nil ?_
  refine W.seq (W.seq (W.region rfl ?_))
  refine WL.p h Val.mv ?_
  refine WL.p h (Val.lt rfl rfl) ?_
  refine WL.dec (fun c2 => ?_) (fun c2 => ?_)
  · refine WL.nil ?_
    refine W.condT rfl ?_
    refine W.seq (W.region rfl ?_)
    refine WL.p h Val.as ?_
    refine WL.nil ?_
    refine W.ret ?_
    exact fin1 rfl rfl ⟨_, rfl, h.toExt, by omega, by omega⟩
  refine WL.nil ?_
  refine W.condF rfl ?_
  refine W.skip ?_
  refine W.seq (W.region rfl ?_)
  refine WL.p h Val.mv ?_
  refine WL.p h Val.as ?_
  refine WL.nil ?_
  refine W.ret ?_
  exact fin1 rfl rfl ⟨_, rfl, h.toExt, by omega, by omega⟩

def szJ (w0 : World) (F : Fz) (v : Value) (n : Nat) (left : Int) (m : Nat) (R : Regs) (w : World) : Prop :=
  ∃ (i : Nat) (l : Int), m + i = n ∧ Hp w0 F F [] w ∧ 0 ≤ l ∧ l + n ≤ left ∧ R 0 = v ∧ R 1 = .int .i64 l ∧ R 5 = .int .i64 (i : Int)
theorem szFileS_calls (F : Fz) (w : World) (hF : Sub F (hv w)) (v : Value) (es : List Fl) (hr : FRow F v es.length 2 (rowF es)) (left : Int) (hl : 0 ≤ left ∧ left ≤ 1048576) (hs : ∀ e ∈ es, e.name.size ≤ 9223372036854775807 ∧ e.text.size ≤ 9223372036854775807) :
    Calls Try.prog 30 #[v, .int .i64 left] w fun e w' => ∃ r : Int, e = .returned (.int .i64 r) ∧ Ext F w F w' ∧ -1 ≤ r ∧ (0 ≤ r → r + es.length ≤ left) := by
  refine calls 27 Try.func30 rfl rfl rfl ?_
  have h := Hp.start hF
  have hmax := hr.max
  refine W.seq (W.region rfl ?_)
  refine WL.p h Val.as ?_
  refine WL.nil ?_
  refine W.seq (W.region rfl ?_)
  refine WL.p h Val.mv ?_
  refine WL.p h Val.mv ?_
  refine WL.p h (Val.len Try.underlying23 rfl hr.val) ?_
  refine WL.p h (Val.subi rfl rfl ⟨rfl, by omega, by omega⟩) ?_
  refine WL.p h Val.as ?_
  refine WL.nil ?_
  refine W.seq (W.seq (W.region rfl ?_))
  refine WL.p h Val.mv ?_
  refine WL.p h (Val.lt rfl rfl) ?_
  refine WL.dec (fun c => ?_) (fun c => ?_)
  · refine WL.nil ?_
    refine W.condT rfl ?_
    refine W.seq (W.region rfl ?_)
    refine WL.p h Val.as ?_
    refine WL.nil ?_
    refine W.ret ?_
    exact fin1 rfl rfl ⟨_, rfl, h.toExt, by omega, by omega⟩
  refine WL.nil ?_
  refine W.condF rfl ?_
  refine W.skip ?_
  refine W.seq (W.seq (W.region rfl ?_))
  refine WL.p h Val.as ?_
  refine WL.nil ?_
  refine W.block ?_
  refine W.loop (szJ w F v es.length left) es.length ?_ (fun m R w hI => ?_)
  · exact ⟨0, left - es.length, by omega, h, by omega, by omega, rfl, rfl, rfl⟩
  clear h
  obtain ⟨i, l, hm, h, hl0, hl1, h0, h1, h5⟩ := hI
  refine W.seq (W.seq (W.region rfl ?_))
  refine WL.p h Val.mv ?_
  refine WL.p h Val.mv ?_
  refine WL.p h (Val.len Try.underlying23 h0 hr.val) ?_
  refine WL.p h (Val.lt h5 rfl) ?_
  refine WL.dec (fun c2 => ?_) (fun c2 => ?_)
  · have hlt : i < es.length := by omega
    obtain ⟨a, ha⟩ : ∃ a, es[i]? = some a := ⟨_, List.getElem?_eq_getElem hlt⟩
    refine WL.nil ?_
    refine W.condT rfl ?_
    refine W.skip ?_
    refine W.seq (W.block ?_)
    refine W.seq (W.region rfl ?_)
    refine WL.p h Val.mv ?_
    refine WL.p h Val.mv ?_
    refine WL.p h (Val.ix Try.underlying23 T95 h0 h5 (hr.slice (by omega)) hlt) ?_
    refine WL.p h (Val.ldRS A95 T95 hr rfl rfl (cs := a.cells) (fun j u hj => flat_get Fl.cells Fl.len es i j a u ha hj)) ?_
    refine WL.p h Val.mv ?_
    refine WL.call C62 (args := [.agg a.cells.toArray, .int .i64 l]) (by simp only [List.map_cons, List.map_nil, ev, updO, upd, h1]; rfl) ((szFile_calls F w h.sub a l (by omega) (hs a (List.mem_of_getElem? ha))).mono ?_)
    rintro e w' ⟨r, rfl, hE, hr1, hr2⟩
    have h := h.call hE
    refine ⟨_, rfl, ?_⟩
    refine WL.p h Val.as ?_
    refine WL.nil ?_
    refine W.seq (W.region rfl ?_)
    refine WL.p h Val.mv ?_
    refine WL.p h (Val.lt rfl rfl) ?_
    refine WL.dec (fun c3 => ?_) (fun c3 => ?_)
    · refine WL.nil ?_
      refine W.condT rfl ?_
      refine W.seq (W.region rfl ?_)
      refine WL.p h Val.as ?_
      refine WL.nil ?_
      refine W.ret ?_
      exact fin1 rfl rfl ⟨_, rfl, h.toExt, by omega, by omega⟩
    refine WL.nil ?_
    refine W.condF rfl ?_
    refine W.skip ?_
    refine W.region rfl ?_
    refine WL.p h Val.mv ?_
    refine WL.p h (Val.addi (c := ((i + 1 : Nat) : Int)) h5 rfl (by omega)) ?_
    refine WL.p h Val.as ?_
    refine WL.nil ?_
    exact ⟨m - 1, by omega, i + 1, _, by omega, h, by omega, by omega, h0, rfl, rfl⟩
  · refine WL.nil ?_
    refine W.condF rfl ?_
    refine W.exit ?_
    refine W.seq (W.region rfl ?_)
    refine WL.p h Val.mv ?_
    refine WL.p h Val.as ?_
    refine WL.nil ?_
    refine W.ret ?_
    exact fin1 rfl h1 ⟨_, rfl, h.toExt, by omega, fun _ => hl1⟩

theorem szStringS_calls (F : Fz) (w : World) (hF : Sub F (hv w)) (v : Value) (es : List ByteArray) (hr : FRow F v es.length 1 (rowS es)) (left : Int) (hl : 0 ≤ left ∧ left ≤ 1048576) (hs : ∀ e ∈ es, e.size ≤ 9223372036854775807) :
    Calls Try.prog 31 #[v, .int .i64 left] w fun e w' => ∃ r : Int, e = .returned (.int .i64 r) ∧ Ext F w F w' ∧ -1 ≤ r ∧ (0 ≤ r → r + es.length ≤ left) := by
  refine calls 28 Try.func31 rfl rfl rfl ?_
  have h := Hp.start hF
  have hmax := hr.max
  refine W.seq (W.region rfl ?_)
  refine WL.p h Val.as ?_
  refine WL.nil ?_
  refine W.seq (W.region rfl ?_)
  refine WL.p h Val.mv ?_
  refine WL.p h Val.mv ?_
  refine WL.p h (Val.len Try.underlying24 rfl hr.val) ?_
  refine WL.p h (Val.subi rfl rfl ⟨rfl, by omega, by omega⟩) ?_
  refine WL.p h Val.as ?_
  refine WL.nil ?_
  refine W.seq (W.seq (W.region rfl ?_))
  refine WL.p h Val.mv ?_
  refine WL.p h (Val.lt rfl rfl) ?_
  refine WL.dec (fun c => ?_) (fun c => ?_)
  · refine WL.nil ?_
    refine W.condT rfl ?_
    refine W.seq (W.region rfl ?_)
    refine WL.p h Val.as ?_
    refine WL.nil ?_
    refine W.ret ?_
    exact fin1 rfl rfl ⟨_, rfl, h.toExt, by omega, by omega⟩
  refine WL.nil ?_
  refine W.condF rfl ?_
  refine W.skip ?_
  refine W.seq (W.seq (W.region rfl ?_))
  refine WL.p h Val.as ?_
  refine WL.nil ?_
  refine W.block ?_
  refine W.loop (szJ w F v es.length left) es.length ?_ (fun m R w hI => ?_)
  · exact ⟨0, left - es.length, by omega, h, by omega, by omega, rfl, rfl, rfl⟩
  clear h
  obtain ⟨i, l, hm, h, hl0, hl1, h0, h1, h5⟩ := hI
  refine W.seq (W.seq (W.region rfl ?_))
  refine WL.p h Val.mv ?_
  refine WL.p h Val.mv ?_
  refine WL.p h (Val.len Try.underlying24 h0 hr.val) ?_
  refine WL.p h (Val.lt h5 rfl) ?_
  refine WL.dec (fun c2 => ?_) (fun c2 => ?_)
  · have hlt : i < es.length := by omega
    obtain ⟨a, ha⟩ : ∃ a, es[i]? = some a := ⟨_, List.getElem?_eq_getElem hlt⟩
    refine WL.nil ?_
    refine W.condT rfl ?_
    refine W.skip ?_
    refine W.seq (W.block ?_)
    refine W.seq (W.region rfl ?_)
    refine WL.p h Val.mv ?_
    refine WL.p h Val.mv ?_
    refine WL.p h Val.mv ?_
    refine WL.p h (Val.ix Try.underlying24 T9 h0 h5 (hr.slice (by omega)) hlt) ?_
    refine WL.p h (Val.ldR A9 hr rfl (flat_get sc sc_len es i 0 a _ ha rfl)) ?_
    refine WL.p h (Val.lenStr Try.underlying9 rfl) ?_
    refine WL.p h (Val.subi h1 rfl ⟨rfl, by have := hs a (List.mem_of_getElem? ha); omega, by omega⟩) ?_
    refine WL.p h Val.as ?_
    refine WL.nil ?_
    refine W.seq (W.region rfl ?_)
    refine WL.p h Val.mv ?_
    refine WL.p h (Val.lt rfl rfl) ?_
    refine WL.dec (fun c3 => ?_) (fun c3 => ?_)
    · refine WL.nil ?_
      refine W.condT rfl ?_
      refine W.seq (W.region rfl ?_)
      refine WL.p h Val.as ?_
      refine WL.nil ?_
      refine W.ret ?_
      exact fin1 rfl rfl ⟨_, rfl, h.toExt, by omega, by omega⟩
    refine WL.nil ?_
    refine W.condF rfl ?_
    refine W.skip ?_
    refine W.region rfl ?_
    refine WL.p h Val.mv ?_
    refine WL.p h (Val.addi (c := ((i + 1 : Nat) : Int)) h5 rfl (by omega)) ?_
    refine WL.p h Val.as ?_
    refine WL.nil ?_
    exact ⟨m - 1, by omega, i + 1, _, by omega, h, by omega, by omega, h0, rfl, rfl⟩
  · refine WL.nil ?_
    refine W.condF rfl ?_
    refine W.exit ?_
    refine W.seq (W.region rfl ?_)
    refine WL.p h Val.mv ?_
    refine WL.p h Val.as ?_
    refine WL.nil ?_
    refine W.ret ?_
    exact fin1 rfl h1 ⟨_, rfl, h.toExt, by omega, fun _ => hl1⟩


theorem szWorld_calls (F : Fz) (w : World) (hF : Sub F (hv w)) (v u : Value) (fs : List Fl) (ns : List ByteArray) (hr : FRow F v fs.length 2 (rowF fs)) (hu : FRow F u ns.length 1 (rowS ns)) (left : Int) (hl : 0 ≤ left ∧ left ≤ 1048576) (hs : ∀ e ∈ fs, e.name.size ≤ 9223372036854775807 ∧ e.text.size ≤ 9223372036854775807) (hs2 : ∀ e ∈ ns, e.size ≤ 9223372036854775807) :
    Calls Try.prog 10 #[.agg #[v, u], .int .i64 left] w fun e w' => ∃ r : Int, e = .returned (.int .i64 r) ∧ Ext F w F w' ∧ (0 ≤ r → fs.length + ns.length ≤ 1048576) := by
  refine calls 18 Try.func10 rfl rfl rfl ?_
  have h := Hp.start hF
  refine W.seq (W.region rfl ?_)
  refine WL.box h rfl (fun b1 w h => ?_)
  refine WL.p h Val.as ?_
  refine WL.nil ?_
  refine W.seq (W.region rfl ?_)
  refine WL.p h (Val.fa O26_0 rfl) ?_
  refine WL.p h (Val.ld 0 A23 rfl rfl rfl) ?_
  refine WL.p h Val.mv ?_
  refine WL.call C30 (args := [v, .int .i64 left]) rfl ((szFileS_calls F w h.sub v fs hr left hl hs).mono ?_)
  rintro e w' ⟨r, rfl, hE, hr1, hr2⟩
  have h := h.call hE
  refine ⟨_, rfl, ?_⟩
  refine WL.p h Val.as ?_
  refine WL.nil ?_
  refine W.seq (W.seq (W.region rfl ?_))
  refine WL.p h Val.mv ?_
  refine WL.p h (Val.lt rfl rfl) ?_
  refine WL.dec (fun c3 => ?_) (fun c3 => ?_)
  · refine WL.nil ?_
    refine W.condT rfl ?_
    refine W.seq (W.region rfl ?_)
    refine WL.p h Val.as ?_
    refine WL.nil ?_
    refine W.ret ?_
    exact fin1 rfl rfl ⟨_, rfl, h.toExt, by omega⟩
  refine WL.nil ?_
  refine W.condF rfl ?_
  refine W.skip ?_
  refine W.seq (W.region rfl ?_)
  refine WL.p h (Val.fa O26_1 rfl) ?_
  refine WL.p h (Val.ld 0 A24 rfl rfl rfl) ?_
  refine WL.p h Val.mv ?_
  refine WL.call C31 (args := [u, .int .i64 r]) rfl ((szStringS_calls F _ h.sub u ns hu r (by omega) hs2).mono ?_)
  rintro e w' ⟨r', rfl, hE, hr1', hr2'⟩
  have h := h.call hE
  refine ⟨_, rfl, ?_⟩
  refine WL.p h Val.as ?_
  refine WL.nil ?_
  refine W.seq (W.seq (W.region rfl ?_))
  refine WL.p h Val.mv ?_
  refine WL.p h (Val.lt rfl rfl) ?_
  refine WL.dec (fun c4 => ?_) (fun c4 => ?_)
  · refine WL.nil ?_
    refine W.condT rfl ?_
    refine W.seq (W.region rfl ?_)
    refine WL.p h Val.as ?_
    refine WL.nil ?_
    refine W.ret ?_
    exact fin1 rfl rfl ⟨_, rfl, h.toExt, by omega⟩
  refine WL.nil ?_
  refine W.condF rfl ?_
  refine W.skip ?_
  refine W.seq (W.region rfl ?_)
  refine WL.p h Val.mv ?_
  refine WL.p h Val.as ?_
  refine WL.nil ?_
  refine W.ret ?_
  exact fin1 rfl rfl ⟨_, rfl, h.toExt, by omega⟩

theorem toFile_calls (F : Fz) (w : World) (hF : Sub F (hv w)) (a : Fl) :
    Calls Try.prog 64 #[.agg a.cells.toArray] w fun e w' => e = .returned (.agg a.cells.toArray) ∧ Ext F w F w' := by
  refine calls 11 Try.func64 rfl rfl rfl ?_
  have h := Hp.start hF
  refine W.seq (W.region rfl ?_)
  refine WL.box h rfl (fun b1 w h => ?_)
  refine WL.alloc h T62 (fun b2 w h => ?_)
  refine WL.nil ?_
  refine W.seq (W.region rfl ?_)
  refine WL.alloc h T62 (fun b3 w h => ?_)
  refine WL.nil ?_
  refine W.seq (W.region rfl ?_)
  refine WL.p h (Val.fa O95_0 rfl) ?_
  refine WL.p h (Val.ld 0 A9 rfl rfl rfl) ?_
  refine WL.p h (Val.fa O62_0 rfl) ?_
  refine WL.st 2 (v := .string a.name) h rfl T9 rfl rfl rfl rfl (fun w h => ?_)
  refine WL.nil ?_
  refine W.seq (W.region rfl ?_)
  refine WL.p h (Val.fa O95_1 rfl) ?_
  refine WL.p h (Val.ld 0 A9 rfl rfl rfl) ?_
  refine WL.p h (Val.fa O62_1 rfl) ?_
  refine WL.st 2 (v := .string a.text) h rfl T9 rfl rfl rfl rfl (fun w h => ?_)
  refine WL.nil ?_
  refine W.seq (W.region rfl ?_)
  refine WL.p h (Val.ldS 2 A62 T62 rfl rfl rfl) ?_
  refine WL.stS 1 h rfl T62 rfl (vs := a.cells) rfl (fl_one a) rfl rfl (fun w h => ?_)
  refine WL.nil ?_
  refine W.ret ?_
  exact finBox h 1 rfl rfl rfl A62 T62 rfl ⟨rfl, h.toExt⟩
def fillR {α : Type} (f : α → List Value) (z : α) (es : List α) (i : Nat) : List Value := (es.take i).flatMap f ++ (List.replicate (es.length - i) z).flatMap f
theorem fillR_len {α : Type} {sz : Nat} (f : α → List Value) (hf : ∀ a, (f a).length = sz) (z : α) (es : List α) (i : Nat) (hi : i ≤ es.length) : (fillR f z es i).length = es.length * sz := by
  rw [fillR, List.length_append, flat_len f hf, flat_len f hf, ← Nat.add_mul]; congr 1; simp; omega
def toJ {α : Type} (w0 : World) (F : Fz) (v : Value) (f : α → List Value) (z : α) (es : List α) (T b : Nat) (m : Nat) (R : Regs) (w : World) : Prop :=
  ∃ (i : Nat), m + i = es.length ∧ Hp w0 F F [.box b (fillR f z es i) T] w ∧ R 0 = v ∧ R 3 = .slice (some ⟨b, 0, none⟩) es.length es.length ∧ R 4 = .int .i64 (i : Int)
theorem toFileS_calls (F : Fz) (w0 : World) (hF : Sub F (hv w0)) (v : Value) (es : List Fl) (hr : FRow F v es.length 2 (rowF es)) (hl : es.length ≤ 1048576) :
    Calls Try.prog 34 #[v] w0 fun e w' => ∃ F' s, e = .returned s ∧ Ext F w0 F' w' ∧ FRow F' s es.length 2 (rowF es) ∧ s.oneCell' = true := by
  refine calls 23 Try.func34 rfl rfl rfl ?_
  have h := Hp.start hF
  refine W.seq (W.region rfl ?_)
  refine WL.p h Val.as ?_
  refine WL.nil ?_
  refine W.seq (W.region rfl ?_)
  refine WL.p h Val.mv ?_
  refine WL.p h (Val.len Try.underlying23 rfl hr.val) ?_
  refine WL.make h Try.underlying29 T62 rfl rfl (by omega) (by omega) (fun b w h => ?_)
  refine WL.p h Val.as ?_
  refine WL.nil ?_
  refine W.seq (W.seq (W.region rfl ?_))
  refine WL.p h Val.as ?_
  refine WL.nil ?_
  refine W.block ?_
  refine W.loop (toJ w0 F v Fl.cells (⟨⟨#[]⟩, ⟨#[]⟩⟩ : Fl) es 62 b) es.length ?_ (fun m R w hI => ?_)
  · have hmade := made_flat Fl.cells Fl.len (by decide) (⟨⟨#[]⟩, ⟨#[]⟩⟩ : Fl) (Value.agg #[.string ⟨#[]⟩, .string ⟨#[]⟩]).cells rfl es.length
    exact ⟨0, by omega, h.cast (by rw [hmade, fillR]; simp), rfl, rfl, rfl⟩
  clear h
  obtain ⟨i, hm, h, h0, h3, h4⟩ := hI
  refine W.seq (W.seq (W.region rfl ?_))
  refine WL.p h Val.mv ?_
  refine WL.p h Val.mv ?_
  refine WL.p h (Val.len Try.underlying23 h0 hr.val) ?_
  refine WL.p h (Val.lt h4 rfl) ?_
  refine WL.dec (fun c2 => ?_) (fun c2 => ?_)
  · have hlt : i < es.length := by omega
    obtain ⟨a, ha⟩ : ∃ a, es[i]? = some a := ⟨_, List.getElem?_eq_getElem hlt⟩
    refine WL.nil ?_
    refine W.condT rfl ?_
    refine W.skip ?_
    refine W.seq (W.block ?_)
    refine W.region rfl ?_
    refine WL.p h Val.mv ?_
    refine WL.p h Val.mv ?_
    refine WL.p h Val.mv ?_
    refine WL.p h Val.mv ?_
    refine WL.p h (Val.ix Try.underlying23 T95 h0 h4 (hr.slice (by omega)) hlt) ?_
    refine WL.p h (Val.ldRS A95 T95 hr rfl rfl (cs := a.cells) (fun j u hj => flat_get Fl.cells Fl.len es i j a u ha hj)) ?_
    refine WL.call C64 (args := [.agg a.cells.toArray]) rfl ((toFile_calls F w h.sub a).mono ?_)
    rintro e w' ⟨rfl, hE⟩
    have h := h.call hE
    refine ⟨_, rfl, ?_⟩
    refine WL.p h (Val.ix Try.underlying29 T62 h3 h4 ⟨_, rfl⟩ hlt) ?_
    refine WL.stA 0 h rfl T62 rfl (vs := a.cells) rfl (fl_one a) rfl (by rw [fillR_len Fl.cells Fl.len _ _ _ (by omega)]; simp [soff, Fl.cells]; omega) (fun w h => ?_)
    refine WL.nil ?_
    refine W.region rfl ?_
    refine WL.p h Val.mv ?_
    refine WL.p h (Val.addi (c := ((i + 1 : Nat) : Int)) h4 rfl (by omega)) ?_
    refine WL.p h Val.as ?_
    refine WL.nil ?_
    refine ⟨m - 1, by omega, i + 1, by omega, h.cast ?_, h0, h3, rfl⟩
    have := fill_step Fl.cells Fl.len (⟨⟨#[]⟩, ⟨#[]⟩⟩ : Fl) es i es.length a ha hlt
    simp only [sblk, soff, Nat.zero_add, Fl.len, List.set_cons_zero, List.nil_append, List.set_cons_succ] at this ⊢
    rw [fillR, fillR, ← this]
  · have hi : i = es.length := by omega
    refine WL.nil ?_
    refine W.condF rfl ?_
    refine W.exit ?_
    refine W.seq (W.region rfl ?_)
    refine WL.p h Val.mv ?_
    refine WL.p h Val.as ?_
    refine WL.nil ?_
    refine W.ret ?_
    have hend : fillR Fl.cells (⟨⟨#[]⟩, ⟨#[]⟩⟩ : Fl) es i = es.flatMap Fl.cells := by
      rw [fillR, hi, List.take_length, Nat.sub_self]; simp
    obtain ⟨F', hs, h, hrow⟩ := h.freezeBox (m := es.length) (size := 2) 0 rfl (fillR_len Fl.cells Fl.len (⟨⟨#[]⟩, ⟨#[]⟩⟩ : Fl) es i (by omega)) (by omega)
    rw [hend] at hrow
    exact fin1 rfl h3 ⟨F', _, rfl, h.toExt, hrow, rfl⟩

theorem toStringS_calls (F : Fz) (w0 : World) (hF : Sub F (hv w0)) (v : Value) (es : List ByteArray) (hr : FRow F v es.length 1 (rowS es)) (hl : es.length ≤ 1048576) :
    Calls Try.prog 35 #[v] w0 fun e w' => ∃ F' s, e = .returned s ∧ Ext F w0 F' w' ∧ FRow F' s es.length 1 (rowS es) ∧ s.oneCell' = true := by
  refine calls 22 Try.func35 rfl rfl rfl ?_
  have h := Hp.start hF
  refine W.seq (W.region rfl ?_)
  refine WL.p h Val.as ?_
  refine WL.nil ?_
  refine W.seq (W.region rfl ?_)
  refine WL.p h Val.mv ?_
  refine WL.p h (Val.len Try.underlying24 rfl hr.val) ?_
  refine WL.make h Try.underlying24 T9 rfl rfl (by omega) (by omega) (fun b w h => ?_)
  refine WL.p h Val.as ?_
  refine WL.nil ?_
  refine W.seq (W.seq (W.region rfl ?_))
  refine WL.p h Val.as ?_
  refine WL.nil ?_
  refine W.block ?_
  refine W.loop (toJ w0 F v sc (⟨#[]⟩ : ByteArray) es 9 b) es.length ?_ (fun m R w hI => ?_)
  · have hmade := made_flat sc sc_len (by decide) (⟨#[]⟩ : ByteArray) (Value.string ⟨#[]⟩).cells rfl es.length
    exact ⟨0, by omega, h.cast (by rw [hmade, fillR]; simp), rfl, rfl, rfl⟩
  clear h
  obtain ⟨i, hm, h, h0, h3, h4⟩ := hI
  refine W.seq (W.seq (W.region rfl ?_))
  refine WL.p h Val.mv ?_
  refine WL.p h Val.mv ?_
  refine WL.p h (Val.len Try.underlying24 h0 hr.val) ?_
  refine WL.p h (Val.lt h4 rfl) ?_
  refine WL.dec (fun c2 => ?_) (fun c2 => ?_)
  · have hlt : i < es.length := by omega
    obtain ⟨a, ha⟩ : ∃ a, es[i]? = some a := ⟨_, List.getElem?_eq_getElem hlt⟩
    refine WL.nil ?_
    refine W.condT rfl ?_
    refine W.skip ?_
    refine W.seq (W.block ?_)
    refine W.region rfl ?_
    refine WL.p h Val.mv ?_
    refine WL.p h Val.mv ?_
    refine WL.p h Val.mv ?_
    refine WL.p h Val.mv ?_
    refine WL.p h (Val.ix Try.underlying24 T9 h0 h4 (hr.slice (by omega)) hlt) ?_
    refine WL.p h (Val.ldR A9 hr rfl (flat_get sc sc_len es i 0 a _ ha rfl)) ?_
    refine WL.p h (Val.ix Try.underlying24 T9 h3 h4 ⟨_, rfl⟩ hlt) ?_
    refine WL.stA 0 h rfl T9 rfl (vs := sc a) rfl (by simp [sc, Value.oneCell']) rfl (by rw [fillR_len sc sc_len _ _ _ (by omega)]; simp [soff, sc]; omega) (fun w h => ?_)
    refine WL.nil ?_
    refine W.region rfl ?_
    refine WL.p h Val.mv ?_
    refine WL.p h (Val.addi (c := ((i + 1 : Nat) : Int)) h4 rfl (by omega)) ?_
    refine WL.p h Val.as ?_
    refine WL.nil ?_
    refine ⟨m - 1, by omega, i + 1, by omega, h.cast ?_, h0, h3, rfl⟩
    have := fill_step sc sc_len (⟨#[]⟩ : ByteArray) es i es.length a ha hlt
    simp only [sblk, soff, Nat.zero_add, sc_len, List.set_cons_zero, List.nil_append, List.set_cons_succ] at this ⊢
    rw [fillR, fillR, ← this]
  · have hi : i = es.length := by omega
    refine WL.nil ?_
    refine W.condF rfl ?_
    refine W.exit ?_
    refine W.seq (W.region rfl ?_)
    refine WL.p h Val.mv ?_
    refine WL.p h Val.as ?_
    refine WL.nil ?_
    refine W.ret ?_
    have hend : fillR sc (⟨#[]⟩ : ByteArray) es i = es.flatMap sc := by
      rw [fillR, hi, List.take_length, Nat.sub_self]; simp
    obtain ⟨F', hs, h, hrow⟩ := h.freezeBox (m := es.length) (size := 1) 0 rfl (fillR_len sc sc_len (⟨#[]⟩ : ByteArray) es i (by omega)) (by omega)
    rw [hend] at hrow
    exact fin1 rfl h3 ⟨F', _, rfl, h.toExt, hrow, rfl⟩


theorem toWorld_calls (F : Fz) (w : World) (hF : Sub F (hv w)) (v u : Value) (fs : List Fl) (ns : List ByteArray) (hr : FRow F v fs.length 2 (rowF fs)) (hu : FRow F u ns.length 1 (rowS ns)) (hl : fs.length + ns.length ≤ 1048576) :
    Calls Try.prog 12 #[.agg #[v, u]] w fun e w' => ∃ F' s t, e = .returned (.agg #[s, t]) ∧ Ext F w F' w' ∧ FRow F' s fs.length 2 (rowF fs) ∧ FRow F' t ns.length 1 (rowS ns) := by
  refine calls 13 Try.func12 rfl rfl rfl ?_
  have h := Hp.start hF
  refine W.seq (W.region rfl ?_)
  refine WL.box h rfl (fun b1 w h => ?_)
  refine WL.alloc h T31 (fun b2 w h => ?_)
  refine WL.nil ?_
  refine W.seq (W.region rfl ?_)
  refine WL.alloc h T31 (fun b3 w h => ?_)
  refine WL.nil ?_
  refine W.seq (W.region rfl ?_)
  refine WL.p h (Val.fa O26_0 rfl) ?_
  refine WL.p h (Val.ld 0 A23 rfl rfl rfl) ?_
  refine WL.call C34 (args := [v]) rfl ((toFileS_calls F w h.sub v fs hr (by omega)).mono ?_)
  rintro e w' ⟨F1, s, rfl, hE, hrow1, hs1⟩
  have h := h.call hE
  refine ⟨_, rfl, ?_⟩
  refine WL.p h (Val.fa O31_0 rfl) ?_
  refine WL.st 2 (v := s) h rfl T29 rfl rfl hs1 rfl (fun w h => ?_)
  refine WL.nil ?_
  refine W.seq (W.region rfl ?_)
  refine WL.p h (Val.fa O26_1 rfl) ?_
  refine WL.p h (Val.ld 0 A24 rfl rfl rfl) ?_
  refine WL.call C35 (args := [u]) rfl ((toStringS_calls F1 w h.sub u ns (hu.mono hE.ext) (by omega)).mono ?_)
  rintro e w' ⟨F2, t, rfl, hE2, hrow2, hs2⟩
  have h := h.call hE2
  refine ⟨_, rfl, ?_⟩
  refine WL.p h (Val.fa O31_1 rfl) ?_
  refine WL.st 2 (v := t) h rfl T24 rfl rfl hs2 rfl (fun w h => ?_)
  refine WL.nil ?_
  refine W.seq (W.region rfl ?_)
  refine WL.p h (Val.ldS 2 A31 T31 rfl rfl rfl) ?_
  refine WL.stS 1 h rfl T31 rfl (vs := [s, t]) rfl (by intro x hx; simp at hx; rcases hx with rfl | rfl <;> assumption) rfl rfl (fun w h => ?_)
  refine WL.nil ?_
  refine W.ret ?_
  exact finBox h 1 rfl rfl rfl A31 T31 rfl ⟨F2, s, t, rfl, h.toExt, hrow1.mono hE2.ext, hrow2⟩

theorem eqFile_calls (F : Fz) (w : World) (hF : Sub F (hv w)) (x y : Fl) :
    Calls Try.prog 67 #[.agg x.cells.toArray, .agg y.cells.toArray] w fun e w' => e = .returned (.bool (decide (x = y))) ∧ Ext F w F w' := by
  refine calls 15 Try.func67 rfl rfl rfl ?_
  have h := Hp.start hF
  have hno : ∀ {p : Prop} [Decidable p], (x = y → p) → ¬ p → ∀ {w0 w1}, Ext F w0 F w1 → Ending.returned (Value.bool false) = .returned (.bool (decide (x = y))) ∧ Ext F w0 F w1 := fun hp hn _ _ hE => ⟨by rw [decide_eq_false (fun e => hn (hp e))], hE⟩
  refine W.seq (W.region rfl ?_)
  refine WL.box h rfl (fun b1 w h => ?_)
  refine WL.box h rfl (fun b2 w h => ?_)
  refine WL.p h Val.as ?_
  refine WL.nil ?_
  refine W.seq (W.seq (W.region rfl ?_))
  refine WL.p h (Val.fa O62_0 rfl) ?_
  refine WL.p h (Val.ld 0 A9 rfl rfl rfl) ?_
  refine WL.p h (Val.fa O62_0 rfl) ?_
  refine WL.p h (Val.ld 1 A9 rfl rfl rfl) ?_
  refine WL.p h (Val.sNe rfl rfl) ?_
  refine WL.dec (fun c1 => ?_) (fun c1 => ?_)
  · refine WL.nil ?_
    refine W.condT rfl ?_
    refine W.seq (W.region rfl ?_)
    refine WL.p h Val.as ?_
    refine WL.nil ?_
    refine W.ret ?_
    exact fin1 rfl rfl (hno (p := x.name = y.name) (fun e => by rw [e]) c1 h.toExt)
  refine WL.nil ?_
  refine W.condF rfl ?_
  refine W.skip ?_
  refine W.seq (W.seq (W.region rfl ?_))
  refine WL.p h (Val.fa O62_1 rfl) ?_
  refine WL.p h (Val.ld 0 A9 rfl rfl rfl) ?_
  refine WL.p h (Val.fa O62_1 rfl) ?_
  refine WL.p h (Val.ld 1 A9 rfl rfl rfl) ?_
  refine WL.p h (Val.sNe rfl rfl) ?_
  refine WL.dec (fun c3 => ?_) (fun c3 => ?_)
  · refine WL.nil ?_
    refine W.condT rfl ?_
    refine W.seq (W.region rfl ?_)
    refine WL.p h Val.as ?_
    refine WL.nil ?_
    refine W.ret ?_
    exact fin1 rfl rfl (hno (p := x.text = y.text) (fun e => by rw [e]) c3 h.toExt)
  refine WL.nil ?_
  refine W.condF rfl ?_
  refine W.skip ?_
  refine W.seq (W.region rfl ?_)
  refine WL.p h Val.as ?_
  refine WL.nil ?_
  refine W.ret ?_
  refine fin1 (v := .bool true) rfl rfl ⟨?_, h.toExt⟩
  have : x = y := by
    cases x; cases y; simp only [Decidable.not_not] at *; subst c1; subst c3; rfl
  simp [this]
def eqJ {α : Type} (w0 : World) (F : Fz) (v u : Value) (es fs : List α) (m : Nat) (R : Regs) (w : World) : Prop :=
  ∃ (i : Nat), m + i = es.length ∧ Hp w0 F F [] w ∧ es.take i = fs.take i ∧ R 0 = v ∧ R 1 = u ∧ R 5 = .int .i64 (i : Int)
theorem eqFileS_calls (F : Fz) (w0 : World) (hF : Sub F (hv w0)) (v u : Value) (es fs : List Fl) (hr : FRow F v es.length 2 (rowF es)) (hs : FRow F u fs.length 2 (rowF fs)) :
    Calls Try.prog 37 #[v, u] w0 fun e w' => e = .returned (.bool (decide (es = fs))) ∧ Ext F w0 F w' := by
  refine calls 27 Try.func37 rfl rfl rfl ?_
  have h := Hp.start hF
  have hmax := hr.max
  refine W.seq (W.region rfl ?_)
  refine WL.p h Val.as ?_
  refine WL.nil ?_
  refine W.seq (W.seq (W.region rfl ?_))
  refine WL.p h Val.mv ?_
  refine WL.p h (Val.len Try.underlying29 rfl hr.val) ?_
  refine WL.p h Val.mv ?_
  refine WL.p h (Val.len Try.underlying29 rfl hs.val) ?_
  refine WL.p h (Val.ne rfl rfl) ?_
  refine WL.dec (fun c1 => ?_) (fun c1 => ?_)
  · refine WL.nil ?_
    refine W.condT rfl ?_
    refine W.seq (W.region rfl ?_)
    refine WL.p h Val.as ?_
    refine WL.nil ?_
    refine W.ret ?_
    exact fin1 (v := .bool false) rfl rfl ⟨by rw [decide_eq_false (fun e => by rw [e] at c1; exact c1 rfl)], h.toExt⟩
  refine WL.nil ?_
  refine W.condF rfl ?_
  refine W.skip ?_
  have hlen : es.length = fs.length := by omega
  refine W.seq (W.seq (W.region rfl ?_))
  refine WL.p h Val.as ?_
  refine WL.nil ?_
  refine W.block ?_
  refine W.loop (eqJ w0 F v u es fs) es.length ?_ (fun m R w hI => ?_)
  · exact ⟨0, by omega, h, rfl, rfl, rfl, rfl⟩
  clear h
  obtain ⟨i, hm, h, heq, h0, h1, h5⟩ := hI
  refine W.seq (W.seq (W.region rfl ?_))
  refine WL.p h Val.mv ?_
  refine WL.p h Val.mv ?_
  refine WL.p h (Val.len Try.underlying29 h0 hr.val) ?_
  refine WL.p h (Val.lt h5 rfl) ?_
  refine WL.dec (fun c2 => ?_) (fun c2 => ?_)
  · have hlt : i < es.length := by omega
    obtain ⟨a, ha⟩ : ∃ a, es[i]? = some a := ⟨_, List.getElem?_eq_getElem hlt⟩
    obtain ⟨b, hb⟩ : ∃ b, fs[i]? = some b := ⟨_, List.getElem?_eq_getElem (by omega)⟩
    refine WL.nil ?_
    refine W.condT rfl ?_
    refine W.skip ?_
    refine W.seq (W.block ?_)
    refine W.seq (W.draw (fun w => Hp w0 F F [] w) [] 10 (by kernel_rfl) rfl rfl ?_)
    have hS := h.drewN 1
    refine WD.take 0 rfl (by kernel_rfl) (fun _ _ _ h => fin_panic h) hS Val.mv ?_
    refine WD.take 1 rfl (by kernel_rfl) (fun _ _ _ h => fin_panic h) hS Val.mv ?_
    refine WD.take 2 rfl (by kernel_rfl) (fun _ _ _ h => fin_panic h) hS (Val.ix Try.underlying29 T62 h0 h5 (hr.slice (by omega)) hlt) ?_
    refine WD.take 3 rfl (by kernel_rfl) (fun _ _ _ h => fin_panic h) hS (Val.ldRS A62 T62 hr rfl rfl (cs := a.cells) (fun j u hj => flat_get Fl.cells Fl.len es i j a u ha hj)) ?_
    refine WD.take 4 rfl (by kernel_rfl) (fun _ _ _ h => fin_panic h) hS Val.mv ?_
    refine WD.take 5 rfl (by kernel_rfl) (fun _ _ _ h => fin_panic h) hS Val.mv ?_
    refine WD.take 6 rfl (by kernel_rfl) (fun _ _ _ h => fin_panic h) hS (Val.ix Try.underlying29 T62 h1 h5 (hs.slice (by omega)) (by omega)) ?_
    refine WD.take 7 rfl (by kernel_rfl) (fun _ _ _ h => fin_panic h) hS (Val.ldRS A62 T62 hs rfl rfl (cs := b.cells) (fun j u hj => flat_get Fl.cells Fl.len fs i j b u hb hj)) ?_
    refine WD.one 8 rfl (by kernel_rfl) ?_
    refine WL.call C67 (args := [.agg a.cells.toArray, .agg b.cells.toArray]) rfl ((eqFile_calls F _ hS.sub a b).mono ?_)
    rintro e w' ⟨rfl, hE⟩
    have h := hS.call hE
    refine ⟨_, rfl, ?_⟩
    refine WL.nil ?_
    refine ⟨h, ?_⟩
    have hS := h
    refine WD.take 9 rfl (by kernel_rfl) (fun _ _ _ h => fin_panic h) hS (Val.not rfl) ?_
    refine WD.nil (by kernel_rfl) ?_
    have h := hS
    by_cases hab : a = b
    · refine W.condF (show Value.bool (!decide (_ = _)) = _ by simp [hab]) ?_
      refine W.skip ?_
      refine W.region rfl ?_
      refine WL.p h Val.mv ?_
      refine WL.p h (Val.addi (c := ((i + 1 : Nat) : Int)) h5 rfl (by omega)) ?_
      refine WL.p h Val.as ?_
      refine WL.nil ?_
      refine ⟨m - 1, by omega, i + 1, by omega, h, ?_, h0, h1, rfl⟩
      rw [List.take_succ_eq_append_getElem hlt, List.take_succ_eq_append_getElem (by omega), heq]
      rw [List.getElem?_eq_getElem hlt] at ha
      rw [List.getElem?_eq_getElem (by omega)] at hb
      rw [Option.some.inj ha, Option.some.inj hb, hab]
    · refine W.condT (show Value.bool (!decide (_ = _)) = _ by simp [hab]) ?_
      refine W.seq (W.region rfl ?_)
      refine WL.p h Val.as ?_
      refine WL.nil ?_
      refine W.ret ?_
      have hne : es ≠ fs := by intro e; subst e; rw [ha] at hb; exact hab (Option.some.inj hb)
      exact fin1 (v := .bool false) rfl rfl ⟨by simp [hne], h.toExt⟩
  · refine WL.nil ?_
    refine W.condF rfl ?_
    refine W.exit ?_
    refine W.seq (W.region rfl ?_)
    refine WL.p h Val.as ?_
    refine WL.nil ?_
    refine W.ret ?_
    refine fin1 (v := .bool true) rfl rfl ⟨?_, h.toExt⟩
    rw [List.take_of_length_le (by omega), List.take_of_length_le (by omega)] at heq
    simp [heq]

theorem eqStringS_calls (F : Fz) (w0 : World) (hF : Sub F (hv w0)) (v u : Value) (es fs : List ByteArray) (hr : FRow F v es.length 1 (rowS es)) (hs : FRow F u fs.length 1 (rowS fs)) :
    Calls Try.prog 38 #[v, u] w0 fun e w' => e = .returned (.bool (decide (es = fs))) ∧ Ext F w0 F w' := by
  refine calls 26 Try.func38 rfl rfl rfl ?_
  have h := Hp.start hF
  have hmax := hr.max
  refine W.seq (W.region rfl ?_)
  refine WL.p h Val.as ?_
  refine WL.nil ?_
  refine W.seq (W.seq (W.region rfl ?_))
  refine WL.p h Val.mv ?_
  refine WL.p h (Val.len Try.underlying24 rfl hr.val) ?_
  refine WL.p h Val.mv ?_
  refine WL.p h (Val.len Try.underlying24 rfl hs.val) ?_
  refine WL.p h (Val.ne rfl rfl) ?_
  refine WL.dec (fun c1 => ?_) (fun c1 => ?_)
  · refine WL.nil ?_
    refine W.condT rfl ?_
    refine W.seq (W.region rfl ?_)
    refine WL.p h Val.as ?_
    refine WL.nil ?_
    refine W.ret ?_
    exact fin1 (v := .bool false) rfl rfl ⟨by rw [decide_eq_false (fun e => by rw [e] at c1; exact c1 rfl)], h.toExt⟩
  refine WL.nil ?_
  refine W.condF rfl ?_
  refine W.skip ?_
  have hlen : es.length = fs.length := by omega
  refine W.seq (W.seq (W.region rfl ?_))
  refine WL.p h Val.as ?_
  refine WL.nil ?_
  refine W.block ?_
  refine W.loop (eqJ w0 F v u es fs) es.length ?_ (fun m R w hI => ?_)
  · exact ⟨0, by omega, h, rfl, rfl, rfl, rfl⟩
  clear h
  obtain ⟨i, hm, h, heq, h0, h1, h5⟩ := hI
  refine W.seq (W.seq (W.region rfl ?_))
  refine WL.p h Val.mv ?_
  refine WL.p h Val.mv ?_
  refine WL.p h (Val.len Try.underlying24 h0 hr.val) ?_
  refine WL.p h (Val.lt h5 rfl) ?_
  refine WL.dec (fun c2 => ?_) (fun c2 => ?_)
  · have hlt : i < es.length := by omega
    obtain ⟨a, ha⟩ : ∃ a, es[i]? = some a := ⟨_, List.getElem?_eq_getElem hlt⟩
    obtain ⟨b, hb⟩ : ∃ b, fs[i]? = some b := ⟨_, List.getElem?_eq_getElem (by omega)⟩
    refine WL.nil ?_
    refine W.condT rfl ?_
    refine W.skip ?_
    refine W.seq (W.block ?_)
    refine W.seq (W.draw (fun w => Hp w0 F F [] w) [] 9 (by kernel_rfl) rfl rfl ?_)
    have hS := h.drewN 1
    refine WD.take 0 rfl (by kernel_rfl) (fun _ _ _ h => fin_panic h) hS Val.mv ?_
    refine WD.take 1 rfl (by kernel_rfl) (fun _ _ _ h => fin_panic h) hS Val.mv ?_
    refine WD.take 2 rfl (by kernel_rfl) (fun _ _ _ h => fin_panic h) hS (Val.ix Try.underlying24 T9 h0 h5 (hr.slice (by omega)) hlt) ?_
    refine WD.take 3 rfl (by kernel_rfl) (fun _ _ _ h => fin_panic h) hS (Val.ldR A9 hr rfl (flat_get sc sc_len es i 0 a _ ha rfl)) ?_
    refine WD.take 4 rfl (by kernel_rfl) (fun _ _ _ h => fin_panic h) hS Val.mv ?_
    refine WD.take 5 rfl (by kernel_rfl) (fun _ _ _ h => fin_panic h) hS Val.mv ?_
    refine WD.take 6 rfl (by kernel_rfl) (fun _ _ _ h => fin_panic h) hS (Val.ix Try.underlying24 T9 h1 h5 (hs.slice (by omega)) (by omega)) ?_
    refine WD.take 7 rfl (by kernel_rfl) (fun _ _ _ h => fin_panic h) hS (Val.ldR A9 hs rfl (flat_get sc sc_len fs i 0 b _ hb rfl)) ?_
    refine WD.take 8 rfl (by kernel_rfl) (fun _ _ _ h => fin_panic h) hS (Val.sNe rfl rfl) ?_
    refine WD.nil (by kernel_rfl) ?_
    have h := hS
    by_cases hab : a = b
    · refine W.condF (show Value.bool (decide (_ ≠ _)) = _ by simp [hab]) ?_
      refine W.skip ?_
      refine W.region rfl ?_
      refine WL.p h Val.mv ?_
      refine WL.p h (Val.addi (c := ((i + 1 : Nat) : Int)) h5 rfl (by omega)) ?_
      refine WL.p h Val.as ?_
      refine WL.nil ?_
      refine ⟨m - 1, by omega, i + 1, by omega, h, ?_, h0, h1, rfl⟩
      rw [List.take_succ_eq_append_getElem hlt, List.take_succ_eq_append_getElem (by omega), heq]
      rw [List.getElem?_eq_getElem hlt] at ha
      rw [List.getElem?_eq_getElem (by omega)] at hb
      rw [Option.some.inj ha, Option.some.inj hb, hab]
    · refine W.condT (show Value.bool (decide (_ ≠ _)) = _ by simp [hab]) ?_
      refine W.seq (W.region rfl ?_)
      refine WL.p h Val.as ?_
      refine WL.nil ?_
      refine W.ret ?_
      have hne : es ≠ fs := by intro e; subst e; rw [ha] at hb; exact hab (Option.some.inj hb)
      exact fin1 (v := .bool false) rfl rfl ⟨by simp [hne], h.toExt⟩
  · refine WL.nil ?_
    refine W.condF rfl ?_
    refine W.exit ?_
    refine W.seq (W.region rfl ?_)
    refine WL.p h Val.as ?_
    refine WL.nil ?_
    refine W.ret ?_
    refine fin1 (v := .bool true) rfl rfl ⟨?_, h.toExt⟩
    rw [List.take_of_length_le (by omega), List.take_of_length_le (by omega)] at heq
    simp [heq]


theorem eqWorld_calls (F : Fz) (w0 : World) (hF : Sub F (hv w0)) (v u v' u' : Value) (fs : List Fl) (ns : List ByteArray) (hr : FRow F v fs.length 2 (rowF fs)) (hu : FRow F u ns.length 1 (rowS ns)) (hr' : FRow F v' fs.length 2 (rowF fs)) (hu' : FRow F u' ns.length 1 (rowS ns)) :
    Calls Try.prog 14 #[.agg #[v, u], .agg #[v', u']] w0 fun e w' => e = .returned (.bool true) ∧ Ext F w0 F w' := by
  refine calls 17 Try.func14 rfl rfl rfl ?_
  have h := Hp.start hF
  refine W.seq (W.region rfl ?_)
  refine WL.box h rfl (fun b1 w h => ?_)
  refine WL.box h rfl (fun b2 w h => ?_)
  refine WL.p h Val.as ?_
  refine WL.nil ?_
  refine W.seq (W.seq (W.region rfl ?_))
  refine WL.p h (Val.fa O31_0 rfl) ?_
  refine WL.p h (Val.ld 0 A29 rfl rfl rfl) ?_
  refine WL.p h (Val.fa O31_0 rfl) ?_
  refine WL.p h (Val.ld 1 A29 rfl rfl rfl) ?_
  refine WL.call C37 (args := [v, v']) rfl ((eqFileS_calls F w h.sub v v' fs fs hr hr').mono ?_)
  rintro e w' ⟨rfl, hE⟩
  have h := h.call hE
  refine ⟨_, rfl, ?_⟩
  refine WL.p h (Val.not rfl) ?_
  refine WL.nil ?_
  refine W.condF (show Value.bool (!decide (_ = _)) = _ by simp) ?_
  refine W.skip ?_
  refine W.seq (W.seq (W.region rfl ?_))
  refine WL.p h (Val.fa O31_1 rfl) ?_
  refine WL.p h (Val.ld 0 A24 rfl rfl rfl) ?_
  refine WL.p h (Val.fa O31_1 rfl) ?_
  refine WL.p h (Val.ld 1 A24 rfl rfl rfl) ?_
  refine WL.call C38 (args := [u, u']) rfl ((eqStringS_calls F _ h.sub u u' ns ns hu hu').mono ?_)
  rintro e w' ⟨rfl, hE⟩
  have h := h.call hE
  refine ⟨_, rfl, ?_⟩
  refine WL.p h (Val.not rfl) ?_
  refine WL.nil ?_
  refine W.condF (show Value.bool (!decide (_ = _)) = _ by simp) ?_
  refine W.skip ?_
  refine W.seq (W.region rfl ?_)
  refine WL.p h Val.as ?_
  refine WL.nil ?_
  refine W.ret ?_
  exact fin1 (v := .bool true) rfl rfl ⟨rfl, h.toExt⟩
end Go.Proofs.Ytmiihhbgfijcmaa.K

