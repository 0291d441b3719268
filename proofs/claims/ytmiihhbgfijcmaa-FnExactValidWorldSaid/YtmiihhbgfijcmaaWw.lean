/- FnExactValidWorld: the program's ValidWorld and the reference's, walked; the law. -/
import Derived.Test.YtmiihhbgfijcmaaLw
import Derived.Test.YtmiihhbgfijcmaaSh
namespace Go.Proofs.Ytmiihhbgfijcmaa.K
open Go Go.RowKit
set_option linter.unusedVariables false
set_option linter.unusedSimpArgs false
set_option maxRecDepth 20000
def byteOk (b : UInt8) : Prop := (97 ≤ b.toNat ∧ b.toNat ≤ 122) ∨ (48 ≤ b.toNat ∧ b.toNat ≤ 57) ∨ b.toNat = 95 ∨ b.toNat = 45 ∨ b.toNat = 46 ∨ b.toNat = 47
def pkgOk (s : ByteArray) : Prop := 1 ≤ s.size ∧ s.size ≤ 30 ∧ ∀ i (h : i < s.size), byteOk s[i]
def FileOk (fs : List Fl) (i : Nat) (f : Fl) : Prop := pkgOk f.name ∧ f.text.size ≤ 8000 ∧ ∀ g, 0 < i → fs[i - 1]? = some g → Op.bytesLess g.name.toList f.name.toList = true
def NameOk (ns : List ByteArray) (i : Nat) (n : ByteArray) : Prop := 1 ≤ n.size ∧ n.size ≤ 1000 ∧ ∀ g, 0 < i → ns[i - 1]? = some g → Op.bytesLess g.toList n.toList = true
def WorldOk (fs : List Fl) (ns : List ByteArray) : Prop := fs.length ≤ 20 ∧ ns.length ≤ 60 ∧ (∀ (i : Nat) f, fs[i]? = some f → FileOk fs i f) ∧ ∀ (i : Nat) n, ns[i]? = some n → NameOk ns i n
theorem ixb (b : UInt8) : 0 ≤ Lib.indexByte [95, 45, 46, 47] ((b.toNat : Nat) : Int).toNat.toUInt8 ↔ b.toNat = 95 ∨ b.toNat = 45 ∨ b.toNat = 46 ∨ b.toNat = 47 := by
  have e : ((b.toNat : Nat) : Int).toNat.toUInt8 = b := by simp
  rw [e]
  have hb : ∀ c : UInt8, (b.toNat = c.toNat) ↔ c = b := fun c => ⟨fun h => (UInt8.toNat_inj.1 h).symm, fun h => by rw [h]⟩
  rw [show (95 : Nat) = (95 : UInt8).toNat from rfl, show (45 : Nat) = (45 : UInt8).toNat from rfl, show (46 : Nat) = (46 : UInt8).toNat from rfl, show (47 : Nat) = (47 : UInt8).toNat from rfl, hb, hb, hb, hb]
  by_cases h1 : (95 : UInt8) = b
  · subst h1; decide
  by_cases h2 : (45 : UInt8) = b
  · subst h2; decide
  by_cases h3 : (46 : UInt8) = b
  · subst h3; decide
  by_cases h4 : (47 : UInt8) = b
  · subst h4; decide
  simp [Lib.indexByte, h1, h2, h3, h4]
def PB (F : Fz) (w0 : World) (p : Prop) (e : Ending) (w : World) : Prop := ∃ b, e = .returned (.bool b) ∧ (b = true ↔ p) ∧ Ext F w0 F w
theorem PB.no {F w0 p w} {F' : Fz} (hE : Ext F w0 F' w) (hn : ¬ p) : PB F w0 p (.returned (.bool false)) w := ⟨false, rfl, by simp [hn], hE.forget⟩
theorem PB.yes {F w0 p w} {F' : Fz} (hE : Ext F w0 F' w) (hn : p) : PB F w0 p (.returned (.bool true)) w := ⟨true, rfl, by simp [hn], hE.forget⟩
theorem l1In_calls (F : Fz) (w : World) (hF : Sub F (hv w)) (n low high : Int) :
    Calls Try.prog 33 #[.int .i64 n, .int .i64 low, .int .i64 high] w fun e w' => e = .returned (.bool (decide (low ≤ n ∧ n ≤ high))) ∧ Ext F w F w' := by
  refine calls 15 Try.func33 rfl rfl rfl ?_
  have h := Hp.start hF
  refine W.seq (W.region rfl ?_)
  refine WL.p h Val.as ?_
  refine WL.nil ?_
  refine W.seq (W.region rfl ?_)
  refine WL.p h Val.mv ?_
  refine WL.p h Val.mv ?_
  refine WL.p h (Val.ge rfl rfl) ?_
  refine WL.dec (fun d2 => ?_) (fun d2 => ?_)
  · refine WL.p h Val.mv ?_
    refine WL.p h Val.mv ?_
    refine WL.p h Val.mv ?_
    refine WL.p h (Val.le rfl rfl) ?_
    refine WL.dec (fun d6 => ?_) (fun d6 => ?_)
    · refine WL.p h (Val.pick rfl) ?_
      refine WL.p h Val.as ?_
      refine WL.nil ?_
      refine W.ret ?_
      exact fin1 (v := .bool true) rfl rfl ⟨by rw [decide_eq_true (show (low ≤ n ∧ n ≤ high) by omega)], h.toExt⟩
    · refine WL.p h (Val.pick rfl) ?_
      refine WL.p h Val.as ?_
      refine WL.nil ?_
      refine W.ret ?_
      exact fin1 (v := .bool false) rfl rfl ⟨by rw [decide_eq_false (show ¬ (low ≤ n ∧ n ≤ high) by omega)], h.toExt⟩
  · refine WL.p h Val.mv ?_
    refine WL.no rfl (?_)
    refine WL.no rfl (?_)
    refine WL.no rfl (?_)
    refine WL.p h (Val.pick rfl) ?_
    refine WL.p h Val.as ?_
    refine WL.nil ?_
    refine W.ret ?_
    exact fin1 (v := .bool false) rfl rfl ⟨by rw [decide_eq_false (show ¬ (low ≤ n ∧ n ≤ high) by omega)], h.toExt⟩

theorem l1Digit_calls (F : Fz) (w : World) (hF : Sub F (hv w)) (b : Int) :
    Calls Try.prog 63 #[.int .u8 b] w fun e w' => e = .returned (.bool (decide (48 ≤ b ∧ b ≤ 57))) ∧ Ext F w F w' := by
  refine calls 9 Try.func63 rfl rfl rfl ?_
  have h := Hp.start hF
  refine W.seq (W.region rfl ?_)
  refine WL.p h Val.as ?_
  refine WL.nil ?_
  refine W.seq (W.region rfl ?_)
  refine WL.p h Val.mv ?_
  refine WL.p h (Val.ge rfl rfl) ?_
  refine WL.dec (fun d1 => ?_) (fun d1 => ?_)
  · refine WL.p h Val.mv ?_
    refine WL.p h Val.mv ?_
    refine WL.p h (Val.le rfl rfl) ?_
    refine WL.dec (fun d4 => ?_) (fun d4 => ?_)
    · refine WL.p h (Val.pick rfl) ?_
      refine WL.p h Val.as ?_
      refine WL.nil ?_
      refine W.ret ?_
      exact fin1 (v := .bool true) rfl rfl ⟨by rw [decide_eq_true (show (48 ≤ b ∧ b ≤ 57) by omega)], h.toExt⟩
    · refine WL.p h (Val.pick rfl) ?_
      refine WL.p h Val.as ?_
      refine WL.nil ?_
      refine W.ret ?_
      exact fin1 (v := .bool false) rfl rfl ⟨by rw [decide_eq_false (show ¬ (48 ≤ b ∧ b ≤ 57) by omega)], h.toExt⟩
  · refine WL.p h Val.mv ?_
    refine WL.no rfl (?_)
    refine WL.no rfl (?_)
    refine WL.p h (Val.pick rfl) ?_
    refine WL.p h Val.as ?_
    refine WL.nil ?_
    refine W.ret ?_
    exact fin1 (v := .bool false) rfl rfl ⟨by rw [decide_eq_false (show ¬ (48 ≤ b ∧ b ≤ 57) by omega)], h.toExt⟩

theorem dig_calls (F : Fz) (w : World) (hF : Sub F (hv w)) (b : Int) :
    Calls Try.prog 65 #[.int .u8 b] w fun e w' => e = .returned (.bool (decide (48 ≤ b ∧ b ≤ 57))) ∧ Ext F w F w' := by
  refine calls 9 Try.func65 rfl rfl rfl ?_
  have h := Hp.start hF
  refine W.seq (W.region rfl ?_)
  refine WL.p h Val.as ?_
  refine WL.nil ?_
  refine W.seq (W.region rfl ?_)
  refine WL.p h Val.mv ?_
  refine WL.p h (Val.ge rfl rfl) ?_
  refine WL.dec (fun d1 => ?_) (fun d1 => ?_)
  · refine WL.p h Val.mv ?_
    refine WL.p h Val.mv ?_
    refine WL.p h (Val.le rfl rfl) ?_
    refine WL.dec (fun d4 => ?_) (fun d4 => ?_)
    · refine WL.p h (Val.pick rfl) ?_
      refine WL.p h Val.as ?_
      refine WL.nil ?_
      refine W.ret ?_
      exact fin1 (v := .bool true) rfl rfl ⟨by rw [decide_eq_true (show (48 ≤ b ∧ b ≤ 57) by omega)], h.toExt⟩
    · refine WL.p h (Val.pick rfl) ?_
      refine WL.p h Val.as ?_
      refine WL.nil ?_
      refine W.ret ?_
      exact fin1 (v := .bool false) rfl rfl ⟨by rw [decide_eq_false (show ¬ (48 ≤ b ∧ b ≤ 57) by omega)], h.toExt⟩
  · refine WL.p h Val.mv ?_
    refine WL.no rfl (?_)
    refine WL.no rfl (?_)
    refine WL.p h (Val.pick rfl) ?_
    refine WL.p h Val.as ?_
    refine WL.nil ?_
    refine W.ret ?_
    exact fin1 (v := .bool false) rfl rfl ⟨by rw [decide_eq_false (show ¬ (48 ≤ b ∧ b ≤ 57) by omega)], h.toExt⟩

def pkI (w0 : World) (F : Fz) (s : ByteArray) (m : Nat) (R : Regs) (w : World) : Prop :=
  ∃ (i : Nat), m + i = s.size ∧ Hp w0 F F [] w ∧ R 0 = .string s ∧ R 3 = .int .i64 (i : Int) ∧ ∀ j (h : j < s.size), j < i → byteOk s[j]
def pkC (w0 : World) (F : Fz) (s : ByteArray) (i : Nat) (hlt : i < s.size) (R : Regs) (w : World) : Prop :=
  Hp w0 F F [] w ∧ R 0 = .string s ∧ R 3 = .int .i64 (i : Int) ∧ byteOk s[i]
theorem l2Package_calls (F : Fz) (w0 : World) (hF : Sub F (hv w0)) (s : ByteArray) : Calls Try.prog 32 #[.string s] w0 (PB F w0 (pkgOk s)) := by
  refine calls 46 Try.func32 rfl rfl rfl ?_
  have h := Hp.start hF
  refine W.seq (W.region rfl ?_)
  refine WL.p h Val.as ?_
  refine WL.nil ?_
  refine W.seq (W.seq (W.region rfl ?_))
  refine WL.p h Val.mv ?_
  refine WL.p h (Val.lenStr Try.underlying9 rfl) ?_
  refine WL.call C33 (args := [.int .i64 s.size, .int .i64 1, .int .i64 30]) rfl ((l1In_calls F w0 h.sub s.size 1 30).mono ?_)
  rintro e w' ⟨rfl, hE⟩
  have h := h.call hE
  refine ⟨_, rfl, ?_⟩
  refine WL.p h (Val.not rfl) ?_
  refine WL.nil ?_
  by_cases hlen : (1 : Int) ≤ s.size ∧ (s.size : Int) ≤ 30
  · refine W.condF (show Value.bool (!decide _) = _ by simp [hlen]) ?_
    refine W.skip ?_
    refine W.seq (W.seq (W.region rfl ?_))
    refine WL.p h Val.as ?_
    refine WL.nil ?_
    refine W.block ?_
    refine W.loop (pkI w0 F s) s.size ?_ (fun m R w hI => ?_)
    · exact ⟨0, by omega, h, rfl, rfl, fun j hj h0 => by omega⟩
    clear h
    obtain ⟨i, hm, h, h0, h3, hall⟩ := hI
    refine W.seq (W.seq (W.region rfl ?_))
    refine WL.p h Val.mv ?_
    refine WL.p h Val.mv ?_
    refine WL.p h (Val.lenStr Try.underlying9 h0) ?_
    refine WL.p h (Val.lt h3 rfl) ?_
    refine WL.dec (fun c2 => ?_) (fun c2 => ?_)
    · have hlt : i < s.size := by omega
      refine WL.nil ?_
      refine W.condT rfl ?_
      refine W.skip ?_
      refine W.cut (pkC w0 F s i hlt) (W.block (W.seq (W.region rfl ?_))) (fun R w hJ => ?_)
      · refine WL.p h Val.mv ?_
        refine WL.p h Val.mv ?_
        refine WL.p h (Val.strIx (s := s) (i := i) Try.underlying9 (by exact h0) (by exact h3) hlt) ?_
        refine WL.p h Val.as ?_
        refine WL.nil ?_
        refine W.seq (W.region rfl ?_)
        refine WL.p h Val.mv ?_
        refine WL.p h (Val.ge rfl rfl) ?_
        refine WL.dec (fun d1 => ?_) (fun d1 => ?_)
        · refine WL.p h Val.mv ?_
          refine WL.p h Val.mv ?_
          refine WL.p h (Val.le rfl rfl) ?_
          refine WL.dec (fun d4 => ?_) (fun d4 => ?_)
          · refine WL.p h (Val.pick rfl) ?_
            refine WL.p h (Val.not rfl) ?_
            refine WL.p h Val.mv ?_
            refine WL.no rfl (?_)
            refine WL.no rfl (?_)
            refine WL.no rfl (?_)
            refine WL.p h (Val.pick rfl) ?_
            refine WL.p h Val.mv ?_
            refine WL.no rfl (?_)
            refine WL.no rfl (?_)
            refine WL.p h (Val.pick rfl) ?_
            refine WL.p h Val.mv ?_
            refine WL.no rfl (?_)
            refine WL.no rfl (?_)
            refine WL.p h (Val.pick rfl) ?_
            refine WL.p h Val.mv ?_
            refine WL.no rfl (?_)
            refine WL.no rfl (?_)
            refine WL.p h (Val.pick rfl) ?_
            refine WL.p h Val.mv ?_
            refine WL.no rfl (?_)
            refine WL.no rfl (?_)
            refine WL.p h (Val.pick rfl) ?_
            refine WL.nil ?_
            refine W.condF rfl ?_
            refine W.skip ?_
            exact ⟨h, h0, h3, by unfold byteOk; omega⟩
          · refine WL.p h (Val.pick rfl) ?_
            refine WL.p h (Val.not rfl) ?_
            refine WL.p h Val.mv ?_
            refine WL.p h Val.mv ?_
            refine WL.call C63 (args := [.int .u8 (s[i].toNat : Int)]) rfl ((l1Digit_calls F _ h.sub (s[i].toNat : Int)).mono ?_)
            rintro e w' ⟨rfl, hE⟩
            have h := h.call hE
            refine ⟨_, rfl, ?_⟩
            refine WL.dec (fun d9 => ?_) (fun d9 => ?_)
            · refine WL.p h (Val.not rfl) ?_
              refine WL.p h (Val.pick rfl) ?_
              refine WL.p h Val.mv ?_
              refine WL.no rfl (?_)
              refine WL.no rfl (?_)
              refine WL.p h (Val.pick rfl) ?_
              refine WL.p h Val.mv ?_
              refine WL.no rfl (?_)
              refine WL.no rfl (?_)
              refine WL.p h (Val.pick rfl) ?_
              refine WL.p h Val.mv ?_
              refine WL.no rfl (?_)
              refine WL.no rfl (?_)
              refine WL.p h (Val.pick rfl) ?_
              refine WL.p h Val.mv ?_
              refine WL.no rfl (?_)
              refine WL.no rfl (?_)
              refine WL.p h (Val.pick rfl) ?_
              refine WL.nil ?_
              refine W.condF rfl ?_
              refine W.skip ?_
              exact ⟨h, h0, h3, by unfold byteOk; omega⟩
            · refine WL.p h (Val.not rfl) ?_
              refine WL.p h (Val.pick rfl) ?_
              refine WL.p h Val.mv ?_
              refine WL.p h Val.mv ?_
              refine WL.p h (Val.ne rfl rfl) ?_
              refine WL.dec (fun d14 => ?_) (fun d14 => ?_)
              · refine WL.p h (Val.pick rfl) ?_
                refine WL.p h Val.mv ?_
                refine WL.p h Val.mv ?_
                refine WL.p h (Val.ne rfl rfl) ?_
                refine WL.dec (fun d18 => ?_) (fun d18 => ?_)
                · refine WL.p h (Val.pick rfl) ?_
                  refine WL.p h Val.mv ?_
                  refine WL.p h Val.mv ?_
                  refine WL.p h (Val.ne rfl rfl) ?_
                  refine WL.dec (fun d22 => ?_) (fun d22 => ?_)
                  · refine WL.p h (Val.pick rfl) ?_
                    refine WL.p h Val.mv ?_
                    refine WL.p h Val.mv ?_
                    refine WL.p h (Val.ne rfl rfl) ?_
                    refine WL.dec (fun d26 => ?_) (fun d26 => ?_)
                    · refine WL.p h (Val.pick rfl) ?_
                      refine WL.nil ?_
                      refine W.condT rfl ?_
                      refine W.seq (W.region rfl ?_)
                      refine WL.p h Val.as ?_
                      refine WL.nil ?_
                      refine W.ret ?_
                      exact fin1 (v := .bool false) rfl rfl (PB.no h.toExt (fun hp => by have := hp.2.2 i hlt; unfold byteOk at this; omega))
                    · refine WL.p h (Val.pick rfl) ?_
                      refine WL.nil ?_
                      refine W.condF rfl ?_
                      refine W.skip ?_
                      exact ⟨h, h0, h3, by unfold byteOk; omega⟩
                  · refine WL.p h (Val.pick rfl) ?_
                    refine WL.p h Val.mv ?_
                    refine WL.no rfl (?_)
                    refine WL.no rfl (?_)
                    refine WL.p h (Val.pick rfl) ?_
                    refine WL.nil ?_
                    refine W.condF rfl ?_
                    refine W.skip ?_
                    exact ⟨h, h0, h3, by unfold byteOk; omega⟩
                · refine WL.p h (Val.pick rfl) ?_
                  refine WL.p h Val.mv ?_
                  refine WL.no rfl (?_)
                  refine WL.no rfl (?_)
                  refine WL.p h (Val.pick rfl) ?_
                  refine WL.p h Val.mv ?_
                  refine WL.no rfl (?_)
                  refine WL.no rfl (?_)
                  refine WL.p h (Val.pick rfl) ?_
                  refine WL.nil ?_
                  refine W.condF rfl ?_
                  refine W.skip ?_
                  exact ⟨h, h0, h3, by unfold byteOk; omega⟩
              · refine WL.p h (Val.pick rfl) ?_
                refine WL.p h Val.mv ?_
                refine WL.no rfl (?_)
                refine WL.no rfl (?_)
                refine WL.p h (Val.pick rfl) ?_
                refine WL.p h Val.mv ?_
                refine WL.no rfl (?_)
                refine WL.no rfl (?_)
                refine WL.p h (Val.pick rfl) ?_
                refine WL.p h Val.mv ?_
                refine WL.no rfl (?_)
                refine WL.no rfl (?_)
                refine WL.p h (Val.pick rfl) ?_
                refine WL.nil ?_
                refine W.condF rfl ?_
                refine W.skip ?_
                exact ⟨h, h0, h3, by unfold byteOk; omega⟩
        · refine WL.p h Val.mv ?_
          refine WL.no rfl (?_)
          refine WL.no rfl (?_)
          refine WL.p h (Val.pick rfl) ?_
          refine WL.p h (Val.not rfl) ?_
          refine WL.p h Val.mv ?_
          refine WL.p h Val.mv ?_
          refine WL.call C63 (args := [.int .u8 (s[i].toNat : Int)]) rfl ((l1Digit_calls F _ h.sub (s[i].toNat : Int)).mono ?_)
          rintro e w' ⟨rfl, hE⟩
          have h := h.call hE
          refine ⟨_, rfl, ?_⟩
          refine WL.dec (fun d9 => ?_) (fun d9 => ?_)
          · refine WL.p h (Val.not rfl) ?_
            refine WL.p h (Val.pick rfl) ?_
            refine WL.p h Val.mv ?_
            refine WL.no rfl (?_)
            refine WL.no rfl (?_)
            refine WL.p h (Val.pick rfl) ?_
            refine WL.p h Val.mv ?_
            refine WL.no rfl (?_)
            refine WL.no rfl (?_)
            refine WL.p h (Val.pick rfl) ?_
            refine WL.p h Val.mv ?_
            refine WL.no rfl (?_)
            refine WL.no rfl (?_)
            refine WL.p h (Val.pick rfl) ?_
            refine WL.p h Val.mv ?_
            refine WL.no rfl (?_)
            refine WL.no rfl (?_)
            refine WL.p h (Val.pick rfl) ?_
            refine WL.nil ?_
            refine W.condF rfl ?_
            refine W.skip ?_
            exact ⟨h, h0, h3, by unfold byteOk; omega⟩
          · refine WL.p h (Val.not rfl) ?_
            refine WL.p h (Val.pick rfl) ?_
            refine WL.p h Val.mv ?_
            refine WL.p h Val.mv ?_
            refine WL.p h (Val.ne rfl rfl) ?_
            refine WL.dec (fun d14 => ?_) (fun d14 => ?_)
            · refine WL.p h (Val.pick rfl) ?_
              refine WL.p h Val.mv ?_
              refine WL.p h Val.mv ?_
              refine WL.p h (Val.ne rfl rfl) ?_
              refine WL.dec (fun d18 => ?_) (fun d18 => ?_)
              · refine WL.p h (Val.pick rfl) ?_
                refine WL.p h Val.mv ?_
                refine WL.p h Val.mv ?_
                refine WL.p h (Val.ne rfl rfl) ?_
                refine WL.dec (fun d22 => ?_) (fun d22 => ?_)
                · refine WL.p h (Val.pick rfl) ?_
                  refine WL.p h Val.mv ?_
                  refine WL.p h Val.mv ?_
                  refine WL.p h (Val.ne rfl rfl) ?_
                  refine WL.dec (fun d26 => ?_) (fun d26 => ?_)
                  · refine WL.p h (Val.pick rfl) ?_
                    refine WL.nil ?_
                    refine W.condT rfl ?_
                    refine W.seq (W.region rfl ?_)
                    refine WL.p h Val.as ?_
                    refine WL.nil ?_
                    refine W.ret ?_
                    exact fin1 (v := .bool false) rfl rfl (PB.no h.toExt (fun hp => by have := hp.2.2 i hlt; unfold byteOk at this; omega))
                  · refine WL.p h (Val.pick rfl) ?_
                    refine WL.nil ?_
                    refine W.condF rfl ?_
                    refine W.skip ?_
                    exact ⟨h, h0, h3, by unfold byteOk; omega⟩
                · refine WL.p h (Val.pick rfl) ?_
                  refine WL.p h Val.mv ?_
                  refine WL.no rfl (?_)
                  refine WL.no rfl (?_)
                  refine WL.p h (Val.pick rfl) ?_
                  refine WL.nil ?_
                  refine W.condF rfl ?_
                  refine W.skip ?_
                  exact ⟨h, h0, h3, by unfold byteOk; omega⟩
              · refine WL.p h (Val.pick rfl) ?_
                refine WL.p h Val.mv ?_
                refine WL.no rfl (?_)
                refine WL.no rfl (?_)
                refine WL.p h (Val.pick rfl) ?_
                refine WL.p h Val.mv ?_
                refine WL.no rfl (?_)
                refine WL.no rfl (?_)
                refine WL.p h (Val.pick rfl) ?_
                refine WL.nil ?_
                refine W.condF rfl ?_
                refine W.skip ?_
                exact ⟨h, h0, h3, by unfold byteOk; omega⟩
            · refine WL.p h (Val.pick rfl) ?_
              refine WL.p h Val.mv ?_
              refine WL.no rfl (?_)
              refine WL.no rfl (?_)
              refine WL.p h (Val.pick rfl) ?_
              refine WL.p h Val.mv ?_
              refine WL.no rfl (?_)
              refine WL.no rfl (?_)
              refine WL.p h (Val.pick rfl) ?_
              refine WL.p h Val.mv ?_
              refine WL.no rfl (?_)
              refine WL.no rfl (?_)
              refine WL.p h (Val.pick rfl) ?_
              refine WL.nil ?_
              refine W.condF rfl ?_
              refine W.skip ?_
              exact ⟨h, h0, h3, by unfold byteOk; omega⟩
      clear h h0 h3
      obtain ⟨h, h0, h3, hb⟩ := hJ
      refine W.region rfl ?_
      refine WL.p h Val.mv ?_
      refine WL.p h (Val.addi (c := ((i + 1 : Nat) : Int)) h3 rfl (by omega)) ?_
      refine WL.p h Val.as ?_
      refine WL.nil ?_
      refine ⟨m - 1, by omega, i + 1, by omega, h, h0, rfl, fun j hj hji => ?_⟩
      by_cases hij : j = i
      · subst hij; exact hb
      · exact hall j hj (by omega)
    · refine WL.nil ?_
      refine W.condF rfl ?_
      refine W.exit ?_
      refine W.seq (W.region rfl ?_)
      refine WL.p h Val.as ?_
      refine WL.nil ?_
      refine W.ret ?_
      exact fin1 (v := .bool true) rfl rfl (PB.yes h.toExt ⟨by omega, by omega, fun j hj => hall j hj (by omega)⟩)
  · refine W.condT (show Value.bool (!decide _) = _ by simp [hlen]) ?_
    refine W.seq (W.region rfl ?_)
    refine WL.p h Val.as ?_
    refine WL.nil ?_
    refine W.ret ?_
    exact fin1 (v := .bool false) rfl rfl (PB.no h.toExt (fun hp => hlen ⟨by have := hp.1; omega, by have := hp.2.1; omega⟩))

def ipA (w0 : World) (F : Fz) (s : ByteArray) (R : Regs) (w : World) : Prop := Hp w0 F F [] w ∧ R 0 = .string s ∧ 1 ≤ s.size ∧ s.size ≤ 30
def ipI (w0 : World) (F : Fz) (s : ByteArray) (m : Nat) (R : Regs) (w : World) : Prop :=
  ∃ (i : Nat), m + i = s.size ∧ Hp w0 F F [] w ∧ R 0 = .string s ∧ R 14 = .int .i64 (s.size : Int) ∧ R 15 = .int .i64 (i : Int) ∧ ∀ j (h : j < s.size), j < i → byteOk s[j]
def ipC (w0 : World) (F : Fz) (s : ByteArray) (i : Nat) (hlt : i < s.size) (R : Regs) (w : World) : Prop :=
  Hp w0 F F [] w ∧ R 0 = .string s ∧ R 14 = .int .i64 (s.size : Int) ∧ R 15 = .int .i64 (i : Int) ∧ byteOk s[i]
theorem isPackage_calls (F : Fz) (w0 : World) (hF : Sub F (hv w0)) (s : ByteArray) : Calls Try.prog 36 #[.string s] w0 (PB F w0 (pkgOk s)) := by
  refine calls 38 Try.func36 rfl rfl rfl ?_
  have h := Hp.start hF
  refine W.seq (W.region rfl ?_)
  refine WL.p h Val.as ?_
  refine WL.nil ?_
  refine W.cut (ipA w0 F s) (W.seq (W.region rfl ?_)) (fun R w hJ => ?_)
  · have h0 : True := trivial
    refine WL.p h Val.mv ?_
    refine WL.p h (Val.lenStr Try.underlying9 rfl) ?_
    refine WL.p h (Val.lt rfl rfl) ?_
    refine WL.dec (fun d2 => ?_) (fun d2 => ?_)
    · refine WL.p h Val.mv ?_
      refine WL.no rfl (?_)
      refine WL.no rfl (?_)
      refine WL.no rfl (?_)
      refine WL.p h (Val.pick rfl) ?_
      refine WL.nil ?_
      refine W.condT rfl ?_
      refine W.seq (W.region rfl ?_)
      refine WL.p h Val.as ?_
      refine WL.nil ?_
      refine W.ret ?_
      exact fin1 (v := .bool false) rfl rfl (PB.no h.toExt (fun hp => by have := hp.1; have := hp.2.1; omega))
    · refine WL.p h Val.mv ?_
      refine WL.p h Val.mv ?_
      refine WL.p h (Val.lenStr Try.underlying9 rfl) ?_
      refine WL.p h (Val.gt rfl rfl) ?_
      refine WL.dec (fun d6 => ?_) (fun d6 => ?_)
      · refine WL.p h (Val.pick rfl) ?_
        refine WL.nil ?_
        refine W.condT rfl ?_
        refine W.seq (W.region rfl ?_)
        refine WL.p h Val.as ?_
        refine WL.nil ?_
        refine W.ret ?_
        exact fin1 (v := .bool false) rfl rfl (PB.no h.toExt (fun hp => by have := hp.1; have := hp.2.1; omega))
      · refine WL.p h (Val.pick rfl) ?_
        refine WL.nil ?_
        refine W.condF rfl ?_
        refine W.skip ?_
        exact ⟨h, rfl, by omega, by omega⟩
  clear h
  obtain ⟨h, h0, hs1, hs2⟩ := hJ
  refine W.seq (W.seq (W.region rfl ?_))
  refine WL.p h Val.mv ?_
  refine WL.p h (Val.lenStr Try.underlying9 h0) ?_
  refine WL.p h Val.mv ?_
  refine WL.nil ?_
  refine W.block ?_
  refine W.loop (ipI w0 F s) s.size ?_ (fun m R w hI => ?_)
  · exact ⟨0, by omega, h, h0, rfl, rfl, fun j hj h0 => by omega⟩
  clear h h0
  obtain ⟨i, hm, h, h0, h14, h15, hall⟩ := hI
  refine W.seq (W.region rfl ?_)
  refine WL.p h (Val.lt h15 h14) ?_
  refine WL.dec (fun c2 => ?_) (fun c2 => ?_)
  · have hlt : i < s.size := by omega
    refine WL.nil ?_
    refine W.seq ?_
    refine W.condT rfl ?_
    refine W.skip ?_
    refine W.cut (ipC w0 F s i hlt) (W.block (W.seq (W.region rfl ?_))) (fun R w hJ => ?_)
    · refine WL.p h Val.mv ?_
      refine WL.p h Val.as ?_
      refine WL.nil ?_
      refine W.seq (W.region rfl ?_)
      refine WL.p h Val.mv ?_
      refine WL.p h Val.mv ?_
      refine WL.p h (Val.strIx (s := s) (i := i) Try.underlying9 (by exact h0) (by exact h15) hlt) ?_
      refine WL.p h Val.as ?_
      refine WL.nil ?_
      refine W.seq (W.region rfl ?_)
      refine WL.p h Val.mv ?_
      refine WL.p h (Val.ge rfl rfl) ?_
      refine WL.dec (fun d1 => ?_) (fun d1 => ?_)
      · refine WL.p h Val.mv ?_
        refine WL.p h Val.mv ?_
        refine WL.p h (Val.le rfl rfl) ?_
        refine WL.dec (fun d4 => ?_) (fun d4 => ?_)
        · refine WL.p h (Val.pick rfl) ?_
          refine WL.p h Val.mv ?_
          refine WL.no rfl (?_)
          refine WL.no rfl (?_)
          refine WL.p h (Val.pick rfl) ?_
          refine WL.p h Val.mv ?_
          refine WL.no rfl (?_)
          refine WL.no rfl (?_)
          refine WL.no rfl (?_)
          refine WL.p h (Val.pick rfl) ?_
          refine WL.p h (Val.not rfl) ?_
          refine WL.nil ?_
          refine W.condF rfl ?_
          refine W.skip ?_
          exact ⟨h, h0, h14, h15, by unfold byteOk; omega⟩
        · refine WL.p h (Val.pick rfl) ?_
          refine WL.p h Val.mv ?_
          refine WL.p h Val.mv ?_
          refine WL.call C65 (args := [.int .u8 (s[i].toNat : Int)]) rfl ((dig_calls F _ h.sub (s[i].toNat : Int)).mono ?_)
          rintro e w' ⟨rfl, hE⟩
          have h := h.call hE
          refine ⟨_, rfl, ?_⟩
          refine WL.dec (fun d8 => ?_) (fun d8 => ?_)
          · refine WL.p h (Val.pick rfl) ?_
            refine WL.p h Val.mv ?_
            refine WL.no rfl (?_)
            refine WL.no rfl (?_)
            refine WL.no rfl (?_)
            refine WL.p h (Val.pick rfl) ?_
            refine WL.p h (Val.not rfl) ?_
            refine WL.nil ?_
            refine W.condF rfl ?_
            refine W.skip ?_
            exact ⟨h, h0, h14, h15, by unfold byteOk; omega⟩
          · refine WL.p h (Val.pick rfl) ?_
            refine WL.p h Val.mv ?_
            refine WL.p h Val.mv ?_
            refine WL.call C66 (args := [.string ⟨#[95, 45, 46, 47]⟩, .int .u8 (s[i].toNat : Int)]) rfl ((Sh.Try.strings_IndexByte ⟨#[95, 45, 46, 47]⟩ (s[i].toNat : Int) _).mono ?_)
            rintro e w' ⟨rfl, rfl⟩
            refine ⟨_, rfl, ?_⟩
            have hix := ixb s[i]
            refine WL.p h (Val.ge (a := Lib.indexByte [95, 45, 46, 47] ((s[i].toNat : Nat) : Int).toNat.toUInt8) rfl rfl) ?_
            refine WL.dec (fun d13 => ?_) (fun d13 => ?_)
            · refine WL.p h (Val.pick rfl) ?_
              refine WL.p h (Val.not rfl) ?_
              refine WL.nil ?_
              refine W.condF rfl ?_
              refine W.skip ?_
              exact ⟨h, h0, h14, h15, by unfold byteOk; omega⟩
            · refine WL.p h (Val.pick rfl) ?_
              refine WL.p h (Val.not rfl) ?_
              refine WL.nil ?_
              refine W.condT rfl ?_
              refine W.seq (W.region rfl ?_)
              refine WL.p h Val.as ?_
              refine WL.nil ?_
              refine W.ret ?_
              exact fin1 (v := .bool false) rfl rfl (PB.no h.toExt (fun hp => by have := hp.2.2 i hlt; unfold byteOk at this; omega))
      · refine WL.p h Val.mv ?_
        refine WL.no rfl (?_)
        refine WL.no rfl (?_)
        refine WL.p h (Val.pick rfl) ?_
        refine WL.p h Val.mv ?_
        refine WL.p h Val.mv ?_
        refine WL.call C65 (args := [.int .u8 (s[i].toNat : Int)]) rfl ((dig_calls F _ h.sub (s[i].toNat : Int)).mono ?_)
        rintro e w' ⟨rfl, hE⟩
        have h := h.call hE
        refine ⟨_, rfl, ?_⟩
        refine WL.dec (fun d8 => ?_) (fun d8 => ?_)
        · refine WL.p h (Val.pick rfl) ?_
          refine WL.p h Val.mv ?_
          refine WL.no rfl (?_)
          refine WL.no rfl (?_)
          refine WL.no rfl (?_)
          refine WL.p h (Val.pick rfl) ?_
          refine WL.p h (Val.not rfl) ?_
          refine WL.nil ?_
          refine W.condF rfl ?_
          refine W.skip ?_
          exact ⟨h, h0, h14, h15, by unfold byteOk; omega⟩
        · refine WL.p h (Val.pick rfl) ?_
          refine WL.p h Val.mv ?_
          refine WL.p h Val.mv ?_
          refine WL.call C66 (args := [.string ⟨#[95, 45, 46, 47]⟩, .int .u8 (s[i].toNat : Int)]) rfl ((Sh.Try.strings_IndexByte ⟨#[95, 45, 46, 47]⟩ (s[i].toNat : Int) _).mono ?_)
          rintro e w' ⟨rfl, rfl⟩
          refine ⟨_, rfl, ?_⟩
          have hix := ixb s[i]
          refine WL.p h (Val.ge (a := Lib.indexByte [95, 45, 46, 47] ((s[i].toNat : Nat) : Int).toNat.toUInt8) rfl rfl) ?_
          refine WL.dec (fun d13 => ?_) (fun d13 => ?_)
          · refine WL.p h (Val.pick rfl) ?_
            refine WL.p h (Val.not rfl) ?_
            refine WL.nil ?_
            refine W.condF rfl ?_
            refine W.skip ?_
            exact ⟨h, h0, h14, h15, by unfold byteOk; omega⟩
          · refine WL.p h (Val.pick rfl) ?_
            refine WL.p h (Val.not rfl) ?_
            refine WL.nil ?_
            refine W.condT rfl ?_
            refine W.seq (W.region rfl ?_)
            refine WL.p h Val.as ?_
            refine WL.nil ?_
            refine W.ret ?_
            exact fin1 (v := .bool false) rfl rfl (PB.no h.toExt (fun hp => by have := hp.2.2 i hlt; unfold byteOk at this; omega))
    clear h h0 h14 h15
    obtain ⟨h, h0, h14, h15, hb⟩ := hJ
    refine W.region rfl ?_
    refine WL.p h (Val.addi (c := ((i + 1 : Nat) : Int)) h15 rfl (by omega)) ?_
    refine WL.p h Val.mv ?_
    refine WL.nil ?_
    refine ⟨m - 1, by omega, i + 1, by omega, h, h0, h14, rfl, fun j hj hji => ?_⟩
    by_cases hij : j = i
    · subst hij; exact hb
    · exact hall j hj (by omega)
  · refine WL.nil ?_
    refine W.seq ?_
    refine W.condF rfl ?_
    refine W.exit ?_
    refine W.seq (W.region rfl ?_)
    refine WL.p h Val.as ?_
    refine WL.nil ?_
    refine W.ret ?_
    exact fin1 (v := .bool true) rfl rfl (PB.yes h.toExt ⟨by omega, by omega, fun j hj => hall j hj (by omega)⟩)

def swA (w0 : World) (F : Fz) (v u : Value) (fs : List Fl) (ns : List ByteArray) (b1 : Nat) (R : Regs) (w : World) : Prop := Hp w0 F F [.box b1 [v, u] 31] w ∧ R 1 = .pointer (some ⟨b1, 0, none⟩) ∧ fs.length ≤ 20 ∧ ns.length ≤ 60
def swI (w0 : World) (F : Fz) (v u : Value) (fs : List Fl) (b1 : Nat) (m : Nat) (R : Regs) (w : World) : Prop :=
  ∃ (i : Nat), m + i = fs.length ∧ Hp w0 F F [.box b1 [v, u] 31] w ∧ R 1 = .pointer (some ⟨b1, 0, none⟩) ∧ R 3 = .int .i64 (i : Int) ∧ ∀ (j : Nat) f, fs[j]? = some f → j < i → FileOk fs j f
def swB (w0 : World) (F : Fz) (v u : Value) (fs : List Fl) (b1 : Nat) (R : Regs) (w : World) : Prop := Hp w0 F F [.box b1 [v, u] 31] w ∧ R 1 = .pointer (some ⟨b1, 0, none⟩) ∧ ∀ (j : Nat) f, fs[j]? = some f → FileOk fs j f
def swC (w0 : World) (F : Fz) (v u : Value) (fs : List Fl) (b1 i : Nat) (f : Fl) (R : Regs) (w : World) : Prop :=
  Hp w0 F F [.box b1 [v, u] 31] w ∧ R 1 = .pointer (some ⟨b1, 0, none⟩) ∧ R 3 = .int .i64 (i : Int) ∧ FileOk fs i f
def snI (w0 : World) (F : Fz) (v u : Value) (ns : List ByteArray) (b1 : Nat) (m : Nat) (R : Regs) (w : World) : Prop :=
  ∃ (i : Nat), m + i = ns.length ∧ Hp w0 F F [.box b1 [v, u] 31] w ∧ R 1 = .pointer (some ⟨b1, 0, none⟩) ∧ R 4 = .int .i64 (i : Int) ∧ ∀ (j : Nat) f, ns[j]? = some f → j < i → NameOk ns j f
def snC (w0 : World) (F : Fz) (v u : Value) (ns : List ByteArray) (b1 i : Nat) (f : ByteArray) (R : Regs) (w : World) : Prop :=
  Hp w0 F F [.box b1 [v, u] 31] w ∧ R 1 = .pointer (some ⟨b1, 0, none⟩) ∧ R 4 = .int .i64 (i : Int) ∧ NameOk ns i f
theorem specValidWorld_calls (F : Fz) (w0 : World) (hF : Sub F (hv w0)) (v u : Value) (fs : List Fl) (ns : List ByteArray) (hr : FRow F v fs.length 2 (rowF fs)) (hu : FRow F u ns.length 1 (rowS ns)) : Calls Try.prog 11 #[.agg #[v, u]] w0 (PB F w0 (WorldOk fs ns)) := by
  refine calls 93 Try.func11 rfl rfl rfl ?_
  have h := Hp.start hF
  refine W.seq (W.region rfl ?_)
  refine WL.box h rfl (fun b1 w h => ?_)
  refine WL.p h Val.as ?_
  refine WL.nil ?_
  refine W.cut (swA w0 F v u fs ns b1) (W.seq (W.region rfl ?_)) (fun R w hJ => ?_)
  · have h0 : True := trivial
    refine WL.p h (Val.fa O31_0 rfl) ?_
    refine WL.p h (Val.ld 0 A29 rfl rfl rfl) ?_
    refine WL.p h (Val.len Try.underlying29 rfl hr.val) ?_
    refine WL.p h (Val.gt rfl rfl) ?_
    refine WL.dec (fun d3 => ?_) (fun d3 => ?_)
    · refine WL.p h Val.mv ?_
      refine WL.no rfl (?_)
      refine WL.no rfl (?_)
      refine WL.no rfl (?_)
      refine WL.no rfl (?_)
      refine WL.p h (Val.pick rfl) ?_
      refine WL.nil ?_
      refine W.condT rfl ?_
      refine W.seq (W.region rfl ?_)
      refine WL.p h Val.as ?_
      refine WL.nil ?_
      refine W.ret ?_
      exact fin1 (v := .bool false) rfl rfl (PB.no h.toExt (fun hp => by have := hp.1; have := hp.2.1; omega))
    · refine WL.p h Val.mv ?_
      refine WL.p h (Val.fa O31_1 rfl) ?_
      refine WL.p h (Val.ld 0 A24 rfl rfl rfl) ?_
      refine WL.p h (Val.len Try.underlying24 rfl hu.val) ?_
      refine WL.p h (Val.gt rfl rfl) ?_
      refine WL.dec (fun d8 => ?_) (fun d8 => ?_)
      · refine WL.p h (Val.pick rfl) ?_
        refine WL.nil ?_
        refine W.condT rfl ?_
        refine W.seq (W.region rfl ?_)
        refine WL.p h Val.as ?_
        refine WL.nil ?_
        refine W.ret ?_
        exact fin1 (v := .bool false) rfl rfl (PB.no h.toExt (fun hp => by have := hp.1; have := hp.2.1; omega))
      · refine WL.p h (Val.pick rfl) ?_
        refine WL.nil ?_
        refine W.condF rfl ?_
        refine W.skip ?_
        exact ⟨h, rfl, by omega, by omega⟩
  clear h
  obtain ⟨h, h1, hl1, hl2⟩ := hJ
  refine W.cut (swB w0 F v u fs b1) (W.seq (W.region rfl ?_)) (fun R w hJ => ?_)
  · refine WL.p h Val.as ?_
    refine WL.nil ?_
    refine W.block ?_
    refine W.loop (swI w0 F v u fs b1) fs.length ?_ (fun m R w hI => ?_)
    · exact ⟨0, by omega, h, h1, rfl, fun j f _ hj => by omega⟩
    clear h h1
    obtain ⟨i, hm, h, h1, h3, hall⟩ := hI
    refine W.seq (W.seq (W.region rfl ?_))
    refine WL.p h Val.mv ?_
    refine WL.p h (Val.fa O31_0 h1) ?_
    refine WL.p h (Val.ld 0 A29 rfl rfl rfl) ?_
    refine WL.p h (Val.len Try.underlying29 rfl hr.val) ?_
    refine WL.p h (Val.lt h3 rfl) ?_
    refine WL.dec (fun c2 => ?_) (fun c2 => ?_)
    · have hlt : i < fs.length := by omega
      obtain ⟨f, hf⟩ : ∃ f, fs[i]? = some f := ⟨_, List.getElem?_eq_getElem hlt⟩
      obtain ⟨g, hg⟩ : ∃ g, fs[i - 1]? = some g := ⟨_, List.getElem?_eq_getElem (by omega)⟩
      refine WL.nil ?_
      refine W.condT rfl ?_
      refine W.skip ?_
      refine W.cut (swC w0 F v u fs b1 i f) (W.block (W.seq (W.draw (fun w => Hp w0 F F [.box b1 [v, u] 31] w) [] 38 (by kernel_rfl) rfl rfl ?_))) (fun R w hJ => ?_)
      · have hS := h.drewN 1
        refine WD.take 0 rfl (by kernel_rfl) (fun _ _ _ h => fin_panic h) hS (Val.fa O31_0 h1) ?_
        refine WD.take 1 rfl (by kernel_rfl) (fun _ _ _ h => fin_panic h) hS (Val.ld 0 A29 rfl rfl rfl) ?_
        refine WD.take 2 rfl (by kernel_rfl) (fun _ _ _ h => fin_panic h) hS Val.mv ?_
        refine WD.take 3 rfl (by kernel_rfl) (fun _ _ _ h => fin_panic h) hS (Val.ix Try.underlying29 T62 rfl h3 (hr.slice (by omega)) hlt) ?_
        refine WD.take 4 rfl (by kernel_rfl) (fun _ _ _ h => fin_panic h) hS (Val.fa O62_0 rfl) ?_
        refine WD.take 5 rfl (by kernel_rfl) (fun _ _ _ h => fin_panic h) hS (Val.ldRf A9 hr rfl (flat_get Fl.cells Fl.len fs i 0 f _ hf rfl)) ?_
        refine WD.one 6 rfl (by kernel_rfl) ?_
        refine WL.call C32 (args := [.string f.name]) rfl ((l2Package_calls F _ hS.sub f.name).mono ?_)
        rintro e w' ⟨b, rfl, hb, hE⟩
        have hS := hS.call hE
        refine ⟨_, rfl, ?_⟩
        refine WL.nil ?_
        refine ⟨hS, ?_⟩
        refine WD.decB (fun d6 => ?_) (fun d6 => ?_)
        · refine WD.take 7 rfl (by kernel_rfl) (fun _ _ _ h => fin_panic h) hS (Val.not rfl) ?_
          refine WD.take 8 rfl (by kernel_rfl) (fun _ _ _ h => fin_panic h) hS Val.mv ?_
          refine WD.take 9 rfl (by kernel_rfl) (fun _ _ _ h => fin_panic h) hS (Val.fa O31_0 h1) ?_
          refine WD.take 10 rfl (by kernel_rfl) (fun _ _ _ h => fin_panic h) hS (Val.ld 0 A29 rfl rfl rfl) ?_
          refine WD.take 11 rfl (by kernel_rfl) (fun _ _ _ h => fin_panic h) hS Val.mv ?_
          refine WD.take 12 rfl (by kernel_rfl) (fun _ _ _ h => fin_panic h) hS (Val.ix Try.underlying29 T62 rfl h3 (hr.slice (by omega)) hlt) ?_
          refine WD.take 13 rfl (by kernel_rfl) (fun _ _ _ h => fin_panic h) hS (Val.fa O62_1 rfl) ?_
          refine WD.take 14 rfl (by kernel_rfl) (fun _ _ _ h => fin_panic h) hS (Val.ldRf A9 hr rfl (flat_get Fl.cells Fl.len fs i 1 f _ hf rfl)) ?_
          refine WD.take 15 rfl (by kernel_rfl) (fun _ _ _ h => fin_panic h) hS (Val.lenStr Try.underlying9 rfl) ?_
          refine WD.take 16 rfl (by kernel_rfl) (fun _ _ _ h => fin_panic h) hS (Val.gt rfl rfl) ?_
          refine WD.dec (fun d16 => ?_) (fun d16 => ?_)
          · refine WD.take 17 rfl (by kernel_rfl) (fun _ _ _ h => fin_panic h) hS (Val.pick rfl) ?_
            refine WD.take 18 rfl (by kernel_rfl) (fun _ _ _ h => fin_panic h) hS Val.mv ?_
            refine WD.skip 19 rfl (by kernel_rfl) (fun _ _ _ h => fin_panic h) hS rfl ?_
            refine WD.skip 20 rfl (by kernel_rfl) (fun _ _ _ h => fin_panic h) hS rfl ?_
            refine WD.skip 21 rfl (by kernel_rfl) (fun _ _ _ h => fin_panic h) hS rfl ?_
            refine WD.skip 22 rfl (by kernel_rfl) (fun _ _ _ h => fin_panic h) hS rfl ?_
            refine WD.skip 23 rfl (by kernel_rfl) (fun _ _ _ h => fin_panic h) hS rfl ?_
            refine WD.skip 24 rfl (by kernel_rfl) (fun _ _ _ h => fin_panic h) hS rfl ?_
            refine WD.skip 25 rfl (by kernel_rfl) (fun _ _ _ h => fin_panic h) hS rfl ?_
            refine WD.skip 26 rfl (by kernel_rfl) (fun _ _ _ h => fin_panic h) hS rfl ?_
            refine WD.skip 27 rfl (by kernel_rfl) (fun _ _ _ h => fin_panic h) hS rfl ?_
            refine WD.skip 28 rfl (by kernel_rfl) (fun _ _ _ h => fin_panic h) hS rfl ?_
            refine WD.skip 29 rfl (by kernel_rfl) (fun _ _ _ h => fin_panic h) hS rfl ?_
            refine WD.skip 30 rfl (by kernel_rfl) (fun _ _ _ h => fin_panic h) hS rfl ?_
            refine WD.skip 31 rfl (by kernel_rfl) (fun _ _ _ h => fin_panic h) hS rfl ?_
            refine WD.skip 32 rfl (by kernel_rfl) (fun _ _ _ h => fin_panic h) hS rfl ?_
            refine WD.skip 33 rfl (by kernel_rfl) (fun _ _ _ h => fin_panic h) hS rfl ?_
            refine WD.skip 34 rfl (by kernel_rfl) (fun _ _ _ h => fin_panic h) hS rfl ?_
            refine WD.skip 35 rfl (by kernel_rfl) (fun _ _ _ h => fin_panic h) hS rfl ?_
            refine WD.skip 36 rfl (by kernel_rfl) (fun _ _ _ h => fin_panic h) hS rfl ?_
            refine WD.take 37 rfl (by kernel_rfl) (fun _ _ _ h => fin_panic h) hS (Val.pick rfl) ?_
            refine WD.nil (by kernel_rfl) ?_
            have fbad : ¬ FileOk fs i f := fun hh => by
              obtain ⟨x1, x2, x3⟩ := hh
              first | omega | (have y1 := hb.2 x1; rw [y1] at d6; cases d6; done) | (have y3 := x3 g (by omega) hg; first | (rw [y3] at d35; cases d35; done) | (rw [le_not_less, y3] at d35; cases d35; done))
            have h := hS
            refine W.condT rfl ?_
            refine W.seq (W.region rfl ?_)
            refine WL.p h Val.as ?_
            refine WL.nil ?_
            refine W.ret ?_
            exact fin1 (v := .bool false) rfl rfl (PB.no h.toExt (fun hp => fbad (hp.2.2.1 i f hf)))
          · refine WD.take 17 rfl (by kernel_rfl) (fun _ _ _ h => fin_panic h) hS (Val.pick rfl) ?_
            refine WD.take 18 rfl (by kernel_rfl) (fun _ _ _ h => fin_panic h) hS Val.mv ?_
            refine WD.take 19 rfl (by kernel_rfl) (fun _ _ _ h => fin_panic h) hS Val.mv ?_
            refine WD.take 20 rfl (by kernel_rfl) (fun _ _ _ h => fin_panic h) hS (Val.gt h3 rfl) ?_
            refine WD.dec (fun d20 => ?_) (fun d20 => ?_)
            · refine WD.take 21 rfl (by kernel_rfl) (fun _ _ _ h => fin_panic h) hS Val.mv ?_
              refine WD.take 22 rfl (by kernel_rfl) (fun _ _ _ h => fin_panic h) hS (Val.fa O31_0 h1) ?_
              refine WD.take 23 rfl (by kernel_rfl) (fun _ _ _ h => fin_panic h) hS (Val.ld 0 A29 rfl rfl rfl) ?_
              refine WD.take 24 rfl (by kernel_rfl) (fun _ _ _ h => fin_panic h) hS Val.mv ?_
              refine WD.take 25 rfl (by kernel_rfl) (fun _ _ _ h => fin_panic h) hS (Val.subi (c := ((i - 1 : Nat) : Int)) h3 rfl (by omega)) ?_
              refine WD.take 26 rfl (by kernel_rfl) (fun _ _ _ h => fin_panic h) hS (Val.ix Try.underlying29 T62 rfl rfl (hr.slice (by omega)) (by omega)) ?_
              refine WD.take 27 rfl (by kernel_rfl) (fun _ _ _ h => fin_panic h) hS (Val.fa O62_0 rfl) ?_
              refine WD.take 28 rfl (by kernel_rfl) (fun _ _ _ h => fin_panic h) hS (Val.ldRf A9 hr rfl (flat_get Fl.cells Fl.len fs (i - 1) 0 g _ hg rfl)) ?_
              refine WD.take 29 rfl (by kernel_rfl) (fun _ _ _ h => fin_panic h) hS (Val.fa O31_0 h1) ?_
              refine WD.take 30 rfl (by kernel_rfl) (fun _ _ _ h => fin_panic h) hS (Val.ld 0 A29 rfl rfl rfl) ?_
              refine WD.take 31 rfl (by kernel_rfl) (fun _ _ _ h => fin_panic h) hS Val.mv ?_
              refine WD.take 32 rfl (by kernel_rfl) (fun _ _ _ h => fin_panic h) hS (Val.ix Try.underlying29 T62 rfl h3 (hr.slice (by omega)) hlt) ?_
              refine WD.take 33 rfl (by kernel_rfl) (fun _ _ _ h => fin_panic h) hS (Val.fa O62_0 rfl) ?_
              refine WD.take 34 rfl (by kernel_rfl) (fun _ _ _ h => fin_panic h) hS (Val.ldRf A9 hr rfl (flat_get Fl.cells Fl.len fs i 0 f _ hf rfl)) ?_
              refine WD.take 35 rfl (by kernel_rfl) (fun _ _ _ h => fin_panic h) hS (Val.strGe rfl rfl) ?_
              refine WD.decB (fun d35 => ?_) (fun d35 => ?_)
              · refine WD.take 36 rfl (by kernel_rfl) (fun _ _ _ h => fin_panic h) hS (Val.pick rfl) ?_
                refine WD.take 37 rfl (by kernel_rfl) (fun _ _ _ h => fin_panic h) hS (Val.pick rfl) ?_
                refine WD.nil (by kernel_rfl) ?_
                have fbad : ¬ FileOk fs i f := fun hh => by
                  obtain ⟨x1, x2, x3⟩ := hh
                  first | omega | (have y1 := hb.2 x1; rw [y1] at d6; cases d6; done) | (have y3 := x3 g (by omega) hg; first | (rw [y3] at d35; cases d35; done) | (rw [le_not_less, y3] at d35; cases d35; done))
                have h := hS
                refine W.condT rfl ?_
                refine W.seq (W.region rfl ?_)
                refine WL.p h Val.as ?_
                refine WL.nil ?_
                refine W.ret ?_
                exact fin1 (v := .bool false) rfl rfl (PB.no h.toExt (fun hp => fbad (hp.2.2.1 i f hf)))
              · refine WD.take 36 rfl (by kernel_rfl) (fun _ _ _ h => fin_panic h) hS (Val.pick rfl) ?_
                refine WD.take 37 rfl (by kernel_rfl) (fun _ _ _ h => fin_panic h) hS (Val.pick rfl) ?_
                refine WD.nil (by kernel_rfl) ?_
                have h := hS
                refine W.condF rfl ?_
                refine W.skip ?_
                refine ⟨h, h1, h3, hb.1 d6, by omega, fun g' hi hg' => ?_⟩
                rw [hg] at hg'
                cases hg'
                first | omega | (simpa using d35) | (rw [le_not_less] at d35; simpa using d35)
            · refine WD.take 21 rfl (by kernel_rfl) (fun _ _ _ h => fin_panic h) hS Val.mv ?_
              refine WD.skip 22 rfl (by kernel_rfl) (fun _ _ _ h => fin_panic h) hS rfl ?_
              refine WD.skip 23 rfl (by kernel_rfl) (fun _ _ _ h => fin_panic h) hS rfl ?_
              refine WD.skip 24 rfl (by kernel_rfl) (fun _ _ _ h => fin_panic h) hS rfl ?_
              refine WD.skip 25 rfl (by kernel_rfl) (fun _ _ _ h => fin_panic h) hS rfl ?_
              refine WD.skip 26 rfl (by kernel_rfl) (fun _ _ _ h => fin_panic h) hS rfl ?_
              refine WD.skip 27 rfl (by kernel_rfl) (fun _ _ _ h => fin_panic h) hS rfl ?_
              refine WD.skip 28 rfl (by kernel_rfl) (fun _ _ _ h => fin_panic h) hS rfl ?_
              refine WD.skip 29 rfl (by kernel_rfl) (fun _ _ _ h => fin_panic h) hS rfl ?_
              refine WD.skip 30 rfl (by kernel_rfl) (fun _ _ _ h => fin_panic h) hS rfl ?_
              refine WD.skip 31 rfl (by kernel_rfl) (fun _ _ _ h => fin_panic h) hS rfl ?_
              refine WD.skip 32 rfl (by kernel_rfl) (fun _ _ _ h => fin_panic h) hS rfl ?_
              refine WD.skip 33 rfl (by kernel_rfl) (fun _ _ _ h => fin_panic h) hS rfl ?_
              refine WD.skip 34 rfl (by kernel_rfl) (fun _ _ _ h => fin_panic h) hS rfl ?_
              refine WD.skip 35 rfl (by kernel_rfl) (fun _ _ _ h => fin_panic h) hS rfl ?_
              refine WD.take 36 rfl (by kernel_rfl) (fun _ _ _ h => fin_panic h) hS (Val.pick rfl) ?_
              refine WD.take 37 rfl (by kernel_rfl) (fun _ _ _ h => fin_panic h) hS (Val.pick rfl) ?_
              refine WD.nil (by kernel_rfl) ?_
              have h := hS
              refine W.condF rfl ?_
              refine W.skip ?_
              refine ⟨h, h1, h3, hb.1 d6, by omega, fun g' hi hg' => ?_⟩
              rw [hg] at hg'
              cases hg'
              first | omega | (simpa using d35) | (rw [le_not_less] at d35; simpa using d35)
        · refine WD.take 7 rfl (by kernel_rfl) (fun _ _ _ h => fin_panic h) hS (Val.not rfl) ?_
          refine WD.take 8 rfl (by kernel_rfl) (fun _ _ _ h => fin_panic h) hS Val.mv ?_
          refine WD.skip 9 rfl (by kernel_rfl) (fun _ _ _ h => fin_panic h) hS rfl ?_
          refine WD.skip 10 rfl (by kernel_rfl) (fun _ _ _ h => fin_panic h) hS rfl ?_
          refine WD.skip 11 rfl (by kernel_rfl) (fun _ _ _ h => fin_panic h) hS rfl ?_
          refine WD.skip 12 rfl (by kernel_rfl) (fun _ _ _ h => fin_panic h) hS rfl ?_
          refine WD.skip 13 rfl (by kernel_rfl) (fun _ _ _ h => fin_panic h) hS rfl ?_
          refine WD.skip 14 rfl (by kernel_rfl) (fun _ _ _ h => fin_panic h) hS rfl ?_
          refine WD.skip 15 rfl (by kernel_rfl) (fun _ _ _ h => fin_panic h) hS rfl ?_
          refine WD.skip 16 rfl (by kernel_rfl) (fun _ _ _ h => fin_panic h) hS rfl ?_
          refine WD.take 17 rfl (by kernel_rfl) (fun _ _ _ h => fin_panic h) hS (Val.pick rfl) ?_
          refine WD.take 18 rfl (by kernel_rfl) (fun _ _ _ h => fin_panic h) hS Val.mv ?_
          refine WD.skip 19 rfl (by kernel_rfl) (fun _ _ _ h => fin_panic h) hS rfl ?_
          refine WD.skip 20 rfl (by kernel_rfl) (fun _ _ _ h => fin_panic h) hS rfl ?_
          refine WD.skip 21 rfl (by kernel_rfl) (fun _ _ _ h => fin_panic h) hS rfl ?_
          refine WD.skip 22 rfl (by kernel_rfl) (fun _ _ _ h => fin_panic h) hS rfl ?_
          refine WD.skip 23 rfl (by kernel_rfl) (fun _ _ _ h => fin_panic h) hS rfl ?_
          refine WD.skip 24 rfl (by kernel_rfl) (fun _ _ _ h => fin_panic h) hS rfl ?_
          refine WD.skip 25 rfl (by kernel_rfl) (fun _ _ _ h => fin_panic h) hS rfl ?_
          refine WD.skip 26 rfl (by kernel_rfl) (fun _ _ _ h => fin_panic h) hS rfl ?_
          refine WD.skip 27 rfl (by kernel_rfl) (fun _ _ _ h => fin_panic h) hS rfl ?_
          refine WD.skip 28 rfl (by kernel_rfl) (fun _ _ _ h => fin_panic h) hS rfl ?_
          refine WD.skip 29 rfl (by kernel_rfl) (fun _ _ _ h => fin_panic h) hS rfl ?_
          refine WD.skip 30 rfl (by kernel_rfl) (fun _ _ _ h => fin_panic h) hS rfl ?_
          refine WD.skip 31 rfl (by kernel_rfl) (fun _ _ _ h => fin_panic h) hS rfl ?_
          refine WD.skip 32 rfl (by kernel_rfl) (fun _ _ _ h => fin_panic h) hS rfl ?_
          refine WD.skip 33 rfl (by kernel_rfl) (fun _ _ _ h => fin_panic h) hS rfl ?_
          refine WD.skip 34 rfl (by kernel_rfl) (fun _ _ _ h => fin_panic h) hS rfl ?_
          refine WD.skip 35 rfl (by kernel_rfl) (fun _ _ _ h => fin_panic h) hS rfl ?_
          refine WD.skip 36 rfl (by kernel_rfl) (fun _ _ _ h => fin_panic h) hS rfl ?_
          refine WD.take 37 rfl (by kernel_rfl) (fun _ _ _ h => fin_panic h) hS (Val.pick rfl) ?_
          refine WD.nil (by kernel_rfl) ?_
          have fbad : ¬ FileOk fs i f := fun hh => by
            obtain ⟨x1, x2, x3⟩ := hh
            first | omega | (have y1 := hb.2 x1; rw [y1] at d6; cases d6; done) | (have y3 := x3 g (by omega) hg; first | (rw [y3] at d35; cases d35; done) | (rw [le_not_less, y3] at d35; cases d35; done))
          have h := hS
          refine W.condT rfl ?_
          refine W.seq (W.region rfl ?_)
          refine WL.p h Val.as ?_
          refine WL.nil ?_
          refine W.ret ?_
          exact fin1 (v := .bool false) rfl rfl (PB.no h.toExt (fun hp => fbad (hp.2.2.1 i f hf)))
      clear h h1 h3
      obtain ⟨h, h1, h3, hnew⟩ := hJ
      refine W.region rfl ?_
      refine WL.p h Val.mv ?_
      refine WL.p h (Val.addi (c := ((i + 1 : Nat) : Int)) h3 rfl (by omega)) ?_
      refine WL.p h Val.as ?_
      refine WL.nil ?_
      refine ⟨m - 1, by omega, i + 1, by omega, h, h1, rfl, fun j z hz hj => ?_⟩
      by_cases hij : j = i
      · rw [hij] at hz ⊢
        rw [hf] at hz
        exact Option.some.inj hz ▸ hnew
      · exact hall j z hz (by omega)
    · refine WL.nil ?_
      refine W.condF rfl ?_
      refine W.exit ?_
      exact ⟨h, h1, fun j f hf => hall j f hf (by have := (List.getElem?_eq_some_iff.1 hf).1; omega)⟩
  clear h h1
  obtain ⟨h, h1, hfiles⟩ := hJ
  refine W.seq (W.seq (W.region rfl ?_))
  refine WL.p h Val.as ?_
  refine WL.nil ?_
  refine W.block ?_
  refine W.loop (snI w0 F v u ns b1) ns.length ?_ (fun m R w hI => ?_)
  · exact ⟨0, by omega, h, h1, rfl, fun j f _ hj => by omega⟩
  clear h h1
  obtain ⟨i, hm, h, h1, h4, hall⟩ := hI
  refine W.seq (W.seq (W.region rfl ?_))
  refine WL.p h Val.mv ?_
  refine WL.p h (Val.fa O31_1 h1) ?_
  refine WL.p h (Val.ld 0 A24 rfl rfl rfl) ?_
  refine WL.p h (Val.len Try.underlying24 rfl hu.val) ?_
  refine WL.p h (Val.lt h4 rfl) ?_
  refine WL.dec (fun c2 => ?_) (fun c2 => ?_)
  · have hlt : i < ns.length := by omega
    obtain ⟨n, hn⟩ : ∃ f, ns[i]? = some f := ⟨_, List.getElem?_eq_getElem hlt⟩
    obtain ⟨g, hg⟩ : ∃ g, ns[i - 1]? = some g := ⟨_, List.getElem?_eq_getElem (by omega)⟩
    refine WL.nil ?_
    refine W.condT rfl ?_
    refine W.skip ?_
    refine W.cut (snC w0 F v u ns b1 i n) (W.block (W.seq (W.draw (fun w => Hp w0 F F [.box b1 [v, u] 31] w) [] 26 (by kernel_rfl) rfl rfl ?_))) (fun R w hJ => ?_)
    · have hS := h.drewN 1
      refine WD.take 0 rfl (by kernel_rfl) (fun _ _ _ h => fin_panic h) hS (Val.fa O31_1 h1) ?_
      refine WD.take 1 rfl (by kernel_rfl) (fun _ _ _ h => fin_panic h) hS (Val.ld 0 A24 rfl rfl rfl) ?_
      refine WD.take 2 rfl (by kernel_rfl) (fun _ _ _ h => fin_panic h) hS Val.mv ?_
      refine WD.take 3 rfl (by kernel_rfl) (fun _ _ _ h => fin_panic h) hS (Val.ix Try.underlying24 T9 rfl h4 (hu.slice (by omega)) hlt) ?_
      refine WD.take 4 rfl (by kernel_rfl) (fun _ _ _ h => fin_panic h) hS (Val.ldR A9 hu rfl (flat_get sc sc_len ns i 0 n _ hn rfl)) ?_
      refine WD.take 5 rfl (by kernel_rfl) (fun _ _ _ h => fin_panic h) hS (Val.lenStr Try.underlying9 rfl) ?_
      refine WD.one 6 rfl (by kernel_rfl) ?_
      refine WL.call C33 (args := [.int .i64 n.size, .int .i64 1, .int .i64 1000]) rfl ((l1In_calls F _ hS.sub n.size 1 1000).mono ?_)
      rintro e w' ⟨rfl, hE⟩
      have hS := hS.call hE
      refine ⟨_, rfl, ?_⟩
      refine WL.nil ?_
      refine ⟨hS, ?_⟩
      refine WD.dec (fun d6 => ?_) (fun d6 => ?_)
      · refine WD.take 7 rfl (by kernel_rfl) (fun _ _ _ h => fin_panic h) hS (Val.not rfl) ?_
        refine WD.take 8 rfl (by kernel_rfl) (fun _ _ _ h => fin_panic h) hS Val.mv ?_
        refine WD.take 9 rfl (by kernel_rfl) (fun _ _ _ h => fin_panic h) hS Val.mv ?_
        refine WD.take 10 rfl (by kernel_rfl) (fun _ _ _ h => fin_panic h) hS (Val.gt h4 rfl) ?_
        refine WD.dec (fun d10 => ?_) (fun d10 => ?_)
        · refine WD.take 11 rfl (by kernel_rfl) (fun _ _ _ h => fin_panic h) hS Val.mv ?_
          refine WD.take 12 rfl (by kernel_rfl) (fun _ _ _ h => fin_panic h) hS (Val.fa O31_1 h1) ?_
          refine WD.take 13 rfl (by kernel_rfl) (fun _ _ _ h => fin_panic h) hS (Val.ld 0 A24 rfl rfl rfl) ?_
          refine WD.take 14 rfl (by kernel_rfl) (fun _ _ _ h => fin_panic h) hS Val.mv ?_
          refine WD.take 15 rfl (by kernel_rfl) (fun _ _ _ h => fin_panic h) hS (Val.subi (c := ((i - 1 : Nat) : Int)) h4 rfl (by omega)) ?_
          refine WD.take 16 rfl (by kernel_rfl) (fun _ _ _ h => fin_panic h) hS (Val.ix Try.underlying24 T9 rfl rfl (hu.slice (by omega)) (by omega)) ?_
          refine WD.take 17 rfl (by kernel_rfl) (fun _ _ _ h => fin_panic h) hS (Val.ldR A9 hu rfl (flat_get sc sc_len ns (i - 1) 0 g _ hg rfl)) ?_
          refine WD.take 18 rfl (by kernel_rfl) (fun _ _ _ h => fin_panic h) hS (Val.fa O31_1 h1) ?_
          refine WD.take 19 rfl (by kernel_rfl) (fun _ _ _ h => fin_panic h) hS (Val.ld 0 A24 rfl rfl rfl) ?_
          refine WD.take 20 rfl (by kernel_rfl) (fun _ _ _ h => fin_panic h) hS Val.mv ?_
          refine WD.take 21 rfl (by kernel_rfl) (fun _ _ _ h => fin_panic h) hS (Val.ix Try.underlying24 T9 rfl h4 (hu.slice (by omega)) hlt) ?_
          refine WD.take 22 rfl (by kernel_rfl) (fun _ _ _ h => fin_panic h) hS (Val.ldR A9 hu rfl (flat_get sc sc_len ns i 0 n _ hn rfl)) ?_
          refine WD.take 23 rfl (by kernel_rfl) (fun _ _ _ h => fin_panic h) hS (Val.strGe rfl rfl) ?_
          refine WD.decB (fun d23 => ?_) (fun d23 => ?_)
          · refine WD.take 24 rfl (by kernel_rfl) (fun _ _ _ h => fin_panic h) hS (Val.pick rfl) ?_
            refine WD.take 25 rfl (by kernel_rfl) (fun _ _ _ h => fin_panic h) hS (Val.pick rfl) ?_
            refine WD.nil (by kernel_rfl) ?_
            have fbad : ¬ NameOk ns i n := fun hh => by
              obtain ⟨x1, x2, x3⟩ := hh
              first | omega | (have y3 := x3 g (by omega) hg; first | (rw [y3] at d23; cases d23; done) | (rw [le_not_less, y3] at d23; cases d23; done))
            have h := hS
            refine W.condT rfl ?_
            refine W.seq (W.region rfl ?_)
            refine WL.p h Val.as ?_
            refine WL.nil ?_
            refine W.ret ?_
            exact fin1 (v := .bool false) rfl rfl (PB.no h.toExt (fun hp => fbad (hp.2.2.2 i n hn)))
          · refine WD.take 24 rfl (by kernel_rfl) (fun _ _ _ h => fin_panic h) hS (Val.pick rfl) ?_
            refine WD.take 25 rfl (by kernel_rfl) (fun _ _ _ h => fin_panic h) hS (Val.pick rfl) ?_
            refine WD.nil (by kernel_rfl) ?_
            have h := hS
            refine W.condF rfl ?_
            refine W.skip ?_
            refine ⟨h, h1, h4, by omega, by omega, fun g' hi hg' => ?_⟩
            rw [hg] at hg'
            cases hg'
            first | omega | (simpa using d23) | (rw [le_not_less] at d23; simpa using d23)
        · refine WD.take 11 rfl (by kernel_rfl) (fun _ _ _ h => fin_panic h) hS Val.mv ?_
          refine WD.skip 12 rfl (by kernel_rfl) (fun _ _ _ h => fin_panic h) hS rfl ?_
          refine WD.skip 13 rfl (by kernel_rfl) (fun _ _ _ h => fin_panic h) hS rfl ?_
          refine WD.skip 14 rfl (by kernel_rfl) (fun _ _ _ h => fin_panic h) hS rfl ?_
          refine WD.skip 15 rfl (by kernel_rfl) (fun _ _ _ h => fin_panic h) hS rfl ?_
          refine WD.skip 16 rfl (by kernel_rfl) (fun _ _ _ h => fin_panic h) hS rfl ?_
          refine WD.skip 17 rfl (by kernel_rfl) (fun _ _ _ h => fin_panic h) hS rfl ?_
          refine WD.skip 18 rfl (by kernel_rfl) (fun _ _ _ h => fin_panic h) hS rfl ?_
          refine WD.skip 19 rfl (by kernel_rfl) (fun _ _ _ h => fin_panic h) hS rfl ?_
          refine WD.skip 20 rfl (by kernel_rfl) (fun _ _ _ h => fin_panic h) hS rfl ?_
          refine WD.skip 21 rfl (by kernel_rfl) (fun _ _ _ h => fin_panic h) hS rfl ?_
          refine WD.skip 22 rfl (by kernel_rfl) (fun _ _ _ h => fin_panic h) hS rfl ?_
          refine WD.skip 23 rfl (by kernel_rfl) (fun _ _ _ h => fin_panic h) hS rfl ?_
          refine WD.take 24 rfl (by kernel_rfl) (fun _ _ _ h => fin_panic h) hS (Val.pick rfl) ?_
          refine WD.take 25 rfl (by kernel_rfl) (fun _ _ _ h => fin_panic h) hS (Val.pick rfl) ?_
          refine WD.nil (by kernel_rfl) ?_
          have h := hS
          refine W.condF rfl ?_
          refine W.skip ?_
          refine ⟨h, h1, h4, by omega, by omega, fun g' hi hg' => ?_⟩
          rw [hg] at hg'
          cases hg'
          first | omega | (simpa using d23) | (rw [le_not_less] at d23; simpa using d23)
      · refine WD.take 7 rfl (by kernel_rfl) (fun _ _ _ h => fin_panic h) hS (Val.not rfl) ?_
        refine WD.take 8 rfl (by kernel_rfl) (fun _ _ _ h => fin_panic h) hS Val.mv ?_
        refine WD.skip 9 rfl (by kernel_rfl) (fun _ _ _ h => fin_panic h) hS rfl ?_
        refine WD.skip 10 rfl (by kernel_rfl) (fun _ _ _ h => fin_panic h) hS rfl ?_
        refine WD.skip 11 rfl (by kernel_rfl) (fun _ _ _ h => fin_panic h) hS rfl ?_
        refine WD.skip 12 rfl (by kernel_rfl) (fun _ _ _ h => fin_panic h) hS rfl ?_
        refine WD.skip 13 rfl (by kernel_rfl) (fun _ _ _ h => fin_panic h) hS rfl ?_
        refine WD.skip 14 rfl (by kernel_rfl) (fun _ _ _ h => fin_panic h) hS rfl ?_
        refine WD.skip 15 rfl (by kernel_rfl) (fun _ _ _ h => fin_panic h) hS rfl ?_
        refine WD.skip 16 rfl (by kernel_rfl) (fun _ _ _ h => fin_panic h) hS rfl ?_
        refine WD.skip 17 rfl (by kernel_rfl) (fun _ _ _ h => fin_panic h) hS rfl ?_
        refine WD.skip 18 rfl (by kernel_rfl) (fun _ _ _ h => fin_panic h) hS rfl ?_
        refine WD.skip 19 rfl (by kernel_rfl) (fun _ _ _ h => fin_panic h) hS rfl ?_
        refine WD.skip 20 rfl (by kernel_rfl) (fun _ _ _ h => fin_panic h) hS rfl ?_
        refine WD.skip 21 rfl (by kernel_rfl) (fun _ _ _ h => fin_panic h) hS rfl ?_
        refine WD.skip 22 rfl (by kernel_rfl) (fun _ _ _ h => fin_panic h) hS rfl ?_
        refine WD.skip 23 rfl (by kernel_rfl) (fun _ _ _ h => fin_panic h) hS rfl ?_
        refine WD.skip 24 rfl (by kernel_rfl) (fun _ _ _ h => fin_panic h) hS rfl ?_
        refine WD.take 25 rfl (by kernel_rfl) (fun _ _ _ h => fin_panic h) hS (Val.pick rfl) ?_
        refine WD.nil (by kernel_rfl) ?_
        have fbad : ¬ NameOk ns i n := fun hh => by
          obtain ⟨x1, x2, x3⟩ := hh
          first | omega | (have y3 := x3 g (by omega) hg; first | (rw [y3] at d23; cases d23; done) | (rw [le_not_less, y3] at d23; cases d23; done))
        have h := hS
        refine W.condT rfl ?_
        refine W.seq (W.region rfl ?_)
        refine WL.p h Val.as ?_
        refine WL.nil ?_
        refine W.ret ?_
        exact fin1 (v := .bool false) rfl rfl (PB.no h.toExt (fun hp => fbad (hp.2.2.2 i n hn)))
    clear h h1 h4
    obtain ⟨h, h1, h4, hnew⟩ := hJ
    refine W.region rfl ?_
    refine WL.p h Val.mv ?_
    refine WL.p h (Val.addi (c := ((i + 1 : Nat) : Int)) h4 rfl (by omega)) ?_
    refine WL.p h Val.as ?_
    refine WL.nil ?_
    refine ⟨m - 1, by omega, i + 1, by omega, h, h1, rfl, fun j z hz hj => ?_⟩
    by_cases hij : j = i
    · rw [hij] at hz ⊢
      rw [hn] at hz
      exact Option.some.inj hz ▸ hnew
    · exact hall j z hz (by omega)
  · refine WL.nil ?_
    refine W.condF rfl ?_
    refine W.exit ?_
    refine W.seq (W.region rfl ?_)
    refine WL.p h Val.as ?_
    refine WL.nil ?_
    refine W.ret ?_
    exact fin1 (v := .bool true) rfl rfl (PB.yes h.toExt ⟨hl1, hl2, hfiles, fun j f hf => hall j f hf (by have := (List.getElem?_eq_some_iff.1 hf).1; omega)⟩)

def iwI (w0 : World) (F : Fz) (v u : Value) (fs : List Fl) (b1 : Nat) (m : Nat) (R : Regs) (w : World) : Prop :=
  ∃ (i : Nat), m + i = fs.length ∧ Hp w0 F F [.box b1 [v, u] 31] w ∧ R 1 = .pointer (some ⟨b1, 0, none⟩) ∧ R 18 = v ∧ R 19 = .int .i64 (fs.length : Int) ∧ R 20 = .int .i64 (i : Int) ∧ ∀ (j : Nat) f, fs[j]? = some f → j < i → FileOk fs j f
def iwC (w0 : World) (F : Fz) (v u : Value) (fs : List Fl) (b1 i : Nat) (f : Fl) (R : Regs) (w : World) : Prop :=
  Hp w0 F F [.box b1 [v, u] 31] w ∧ R 1 = .pointer (some ⟨b1, 0, none⟩) ∧ R 18 = v ∧ R 19 = .int .i64 (fs.length : Int) ∧ R 20 = .int .i64 (i : Int) ∧ FileOk fs i f
def inI (w0 : World) (F : Fz) (v u : Value) (ns : List ByteArray) (b1 : Nat) (m : Nat) (R : Regs) (w : World) : Prop :=
  ∃ (i : Nat), m + i = ns.length ∧ Hp w0 F F [.box b1 [v, u] 31] w ∧ R 1 = .pointer (some ⟨b1, 0, none⟩) ∧ R 53 = u ∧ R 54 = .int .i64 (ns.length : Int) ∧ R 55 = .int .i64 (i : Int) ∧ ∀ (j : Nat) f, ns[j]? = some f → j < i → NameOk ns j f
def inC (w0 : World) (F : Fz) (v u : Value) (ns : List ByteArray) (b1 i : Nat) (f : ByteArray) (R : Regs) (w : World) : Prop :=
  Hp w0 F F [.box b1 [v, u] 31] w ∧ R 1 = .pointer (some ⟨b1, 0, none⟩) ∧ R 53 = u ∧ R 54 = .int .i64 (ns.length : Int) ∧ R 55 = .int .i64 (i : Int) ∧ NameOk ns i f
theorem implValidWorld_calls (F : Fz) (w0 : World) (hF : Sub F (hv w0)) (v u : Value) (fs : List Fl) (ns : List ByteArray) (hr : FRow F v fs.length 2 (rowF fs)) (hu : FRow F u ns.length 1 (rowS ns)) : Calls Try.prog 13 #[.agg #[v, u]] w0 (PB F w0 (WorldOk fs ns)) := by
  refine calls 83 Try.func13 rfl rfl rfl ?_
  have h := Hp.start hF
  refine W.seq (W.region rfl ?_)
  refine WL.box h rfl (fun b1 w h => ?_)
  refine WL.p h Val.as ?_
  refine WL.nil ?_
  refine W.cut (swA w0 F v u fs ns b1) (W.seq (W.region rfl ?_)) (fun R w hJ => ?_)
  · have h0 : True := trivial
    refine WL.p h (Val.fa O31_0 rfl) ?_
    refine WL.p h (Val.ld 0 A29 rfl rfl rfl) ?_
    refine WL.p h (Val.len Try.underlying29 rfl hr.val) ?_
    refine WL.p h (Val.gt rfl rfl) ?_
    refine WL.dec (fun d3 => ?_) (fun d3 => ?_)
    · refine WL.p h Val.mv ?_
      refine WL.no rfl (?_)
      refine WL.no rfl (?_)
      refine WL.no rfl (?_)
      refine WL.no rfl (?_)
      refine WL.p h (Val.pick rfl) ?_
      refine WL.nil ?_
      refine W.condT rfl ?_
      refine W.seq (W.region rfl ?_)
      refine WL.p h Val.as ?_
      refine WL.nil ?_
      refine W.ret ?_
      exact fin1 (v := .bool false) rfl rfl (PB.no h.toExt (fun hp => by have := hp.1; have := hp.2.1; omega))
    · refine WL.p h Val.mv ?_
      refine WL.p h (Val.fa O31_1 rfl) ?_
      refine WL.p h (Val.ld 0 A24 rfl rfl rfl) ?_
      refine WL.p h (Val.len Try.underlying24 rfl hu.val) ?_
      refine WL.p h (Val.gt rfl rfl) ?_
      refine WL.dec (fun d8 => ?_) (fun d8 => ?_)
      · refine WL.p h (Val.pick rfl) ?_
        refine WL.nil ?_
        refine W.condT rfl ?_
        refine W.seq (W.region rfl ?_)
        refine WL.p h Val.as ?_
        refine WL.nil ?_
        refine W.ret ?_
        exact fin1 (v := .bool false) rfl rfl (PB.no h.toExt (fun hp => by have := hp.1; have := hp.2.1; omega))
      · refine WL.p h (Val.pick rfl) ?_
        refine WL.nil ?_
        refine W.condF rfl ?_
        refine W.skip ?_
        exact ⟨h, rfl, by omega, by omega⟩
  clear h
  obtain ⟨h, h1, hl1, hl2⟩ := hJ
  refine W.cut (swB w0 F v u fs b1) (W.seq (W.region rfl ?_)) (fun R w hJ => ?_)
  · refine WL.p h (Val.fa O31_0 h1) ?_
    refine WL.p h (Val.ld 0 A29 rfl rfl rfl) ?_
    refine WL.p h (Val.len Try.underlying29 rfl hr.val) ?_
    refine WL.p h Val.mv ?_
    refine WL.nil ?_
    refine W.block ?_
    refine W.loop (iwI w0 F v u fs b1) fs.length ?_ (fun m R w hI => ?_)
    · exact ⟨0, by omega, h, h1, rfl, rfl, rfl, fun j f _ hj => by omega⟩
    clear h h1
    obtain ⟨i, hm, h, h1, h18, h19, h20, hall⟩ := hI
    refine W.seq (W.region rfl ?_)
    refine WL.p h (Val.lt h20 h19) ?_
    refine WL.dec (fun c2 => ?_) (fun c2 => ?_)
    · have hlt : i < fs.length := by omega
      obtain ⟨f, hf⟩ : ∃ f, fs[i]? = some f := ⟨_, List.getElem?_eq_getElem hlt⟩
      obtain ⟨g, hg⟩ : ∃ g, fs[i - 1]? = some g := ⟨_, List.getElem?_eq_getElem (by omega)⟩
      refine WL.nil ?_
      refine W.seq ?_
      refine W.condT rfl ?_
      refine W.skip ?_
      refine W.cut (iwC w0 F v u fs b1 i f) (W.block (W.seq (W.region rfl ?_))) (fun R w hJ => ?_)
      · refine WL.p h Val.mv ?_
        refine WL.p h (Val.ix Try.underlying29 T62 h18 h20 (hr.slice (by omega)) hlt) ?_
        refine WL.p h (Val.ldRS A62 T62 hr rfl rfl (cs := f.cells) (fun j u hj => flat_get Fl.cells Fl.len fs i j f u hf hj)) ?_
        refine WL.alloc h T62 (fun b4 w h => ?_)
        refine WL.p h Val.as ?_
        refine WL.stS 1 h rfl T62 rfl rfl (fl_one f) rfl rfl (fun w h => ?_)
        refine WL.nil ?_
        refine W.seq (W.draw (fun w => Hp w0 F F [.box b1 [v, u] 31, .box b4 f.cells 62] w) [] 26 (by kernel_rfl) rfl rfl ?_)
        have hS := h.drewN 1
        refine WD.take 0 rfl (by kernel_rfl) (fun _ _ _ h => fin_panic h) hS (Val.fa O62_0 rfl) ?_
        refine WD.take 1 rfl (by kernel_rfl) (fun _ _ _ h => fin_panic h) hS (Val.ld 1 A9 rfl rfl rfl) ?_
        refine WD.one 2 rfl (by kernel_rfl) ?_
        refine WL.call C36 (args := [.string f.name]) rfl ((isPackage_calls F _ hS.sub f.name).mono ?_)
        rintro e w' ⟨b, rfl, hb, hE⟩
        have hS := hS.call hE
        refine ⟨_, rfl, ?_⟩
        refine WL.nil ?_
        refine ⟨hS, ?_⟩
        refine WD.decB (fun d2 => ?_) (fun d2 => ?_)
        · refine WD.take 3 rfl (by kernel_rfl) (fun _ _ _ h => fin_panic h) hS (Val.not rfl) ?_
          refine WD.take 4 rfl (by kernel_rfl) (fun _ _ _ h => fin_panic h) hS Val.mv ?_
          refine WD.take 5 rfl (by kernel_rfl) (fun _ _ _ h => fin_panic h) hS (Val.fa O62_1 rfl) ?_
          refine WD.take 6 rfl (by kernel_rfl) (fun _ _ _ h => fin_panic h) hS (Val.ld 1 A9 rfl rfl rfl) ?_
          refine WD.take 7 rfl (by kernel_rfl) (fun _ _ _ h => fin_panic h) hS (Val.lenStr Try.underlying9 rfl) ?_
          refine WD.take 8 rfl (by kernel_rfl) (fun _ _ _ h => fin_panic h) hS (Val.gt rfl rfl) ?_
          refine WD.dec (fun d8 => ?_) (fun d8 => ?_)
          · refine WD.take 9 rfl (by kernel_rfl) (fun _ _ _ h => fin_panic h) hS (Val.pick rfl) ?_
            refine WD.take 10 rfl (by kernel_rfl) (fun _ _ _ h => fin_panic h) hS Val.mv ?_
            refine WD.skip 11 rfl (by kernel_rfl) (fun _ _ _ h => fin_panic h) hS rfl ?_
            refine WD.skip 12 rfl (by kernel_rfl) (fun _ _ _ h => fin_panic h) hS rfl ?_
            refine WD.skip 13 rfl (by kernel_rfl) (fun _ _ _ h => fin_panic h) hS rfl ?_
            refine WD.skip 14 rfl (by kernel_rfl) (fun _ _ _ h => fin_panic h) hS rfl ?_
            refine WD.skip 15 rfl (by kernel_rfl) (fun _ _ _ h => fin_panic h) hS rfl ?_
            refine WD.skip 16 rfl (by kernel_rfl) (fun _ _ _ h => fin_panic h) hS rfl ?_
            refine WD.skip 17 rfl (by kernel_rfl) (fun _ _ _ h => fin_panic h) hS rfl ?_
            refine WD.skip 18 rfl (by kernel_rfl) (fun _ _ _ h => fin_panic h) hS rfl ?_
            refine WD.skip 19 rfl (by kernel_rfl) (fun _ _ _ h => fin_panic h) hS rfl ?_
            refine WD.skip 20 rfl (by kernel_rfl) (fun _ _ _ h => fin_panic h) hS rfl ?_
            refine WD.skip 21 rfl (by kernel_rfl) (fun _ _ _ h => fin_panic h) hS rfl ?_
            refine WD.skip 22 rfl (by kernel_rfl) (fun _ _ _ h => fin_panic h) hS rfl ?_
            refine WD.skip 23 rfl (by kernel_rfl) (fun _ _ _ h => fin_panic h) hS rfl ?_
            refine WD.skip 24 rfl (by kernel_rfl) (fun _ _ _ h => fin_panic h) hS rfl ?_
            refine WD.take 25 rfl (by kernel_rfl) (fun _ _ _ h => fin_panic h) hS (Val.pick rfl) ?_
            refine WD.nil (by kernel_rfl) ?_
            have fbad : ¬ FileOk fs i f := fun hh => by
              obtain ⟨x1, x2, x3⟩ := hh
              first | omega | (have y1 := hb.2 x1; rw [y1] at d2; cases d2; done) | (have y3 := x3 g (by omega) hg; first | (rw [le_not_less, y3] at d23; cases d23; done))
            have h := hS
            refine W.condT rfl ?_
            refine W.seq (W.region rfl ?_)
            refine WL.p h Val.as ?_
            refine WL.nil ?_
            refine W.ret ?_
            exact fin1 (v := .bool false) rfl rfl (PB.no h.toExt (fun hp => fbad (hp.2.2.1 i f hf)))
          · refine WD.take 9 rfl (by kernel_rfl) (fun _ _ _ h => fin_panic h) hS (Val.pick rfl) ?_
            refine WD.take 10 rfl (by kernel_rfl) (fun _ _ _ h => fin_panic h) hS Val.mv ?_
            refine WD.take 11 rfl (by kernel_rfl) (fun _ _ _ h => fin_panic h) hS Val.mv ?_
            refine WD.take 12 rfl (by kernel_rfl) (fun _ _ _ h => fin_panic h) hS (Val.gt h20 rfl) ?_
            refine WD.dec (fun d12 => ?_) (fun d12 => ?_)
            · refine WD.take 13 rfl (by kernel_rfl) (fun _ _ _ h => fin_panic h) hS Val.mv ?_
              refine WD.take 14 rfl (by kernel_rfl) (fun _ _ _ h => fin_panic h) hS (Val.fa O62_0 rfl) ?_
              refine WD.take 15 rfl (by kernel_rfl) (fun _ _ _ h => fin_panic h) hS (Val.ld 1 A9 rfl rfl rfl) ?_
              refine WD.take 16 rfl (by kernel_rfl) (fun _ _ _ h => fin_panic h) hS (Val.fa O31_0 h1) ?_
              refine WD.take 17 rfl (by kernel_rfl) (fun _ _ _ h => fin_panic h) hS (Val.ld 0 A29 rfl rfl rfl) ?_
              refine WD.take 18 rfl (by kernel_rfl) (fun _ _ _ h => fin_panic h) hS Val.mv ?_
              refine WD.take 19 rfl (by kernel_rfl) (fun _ _ _ h => fin_panic h) hS (Val.subi (c := ((i - 1 : Nat) : Int)) h20 rfl (by omega)) ?_
              refine WD.take 20 rfl (by kernel_rfl) (fun _ _ _ h => fin_panic h) hS (Val.ix Try.underlying29 T62 rfl rfl (hr.slice (by omega)) (by omega)) ?_
              refine WD.take 21 rfl (by kernel_rfl) (fun _ _ _ h => fin_panic h) hS (Val.fa O62_0 rfl) ?_
              refine WD.take 22 rfl (by kernel_rfl) (fun _ _ _ h => fin_panic h) hS (Val.ldRf A9 hr rfl (flat_get Fl.cells Fl.len fs (i - 1) 0 g _ hg rfl)) ?_
              refine WD.take 23 rfl (by kernel_rfl) (fun _ _ _ h => fin_panic h) hS (Val.strLe rfl rfl) ?_
              refine WD.decB (fun d23 => ?_) (fun d23 => ?_)
              · refine WD.take 24 rfl (by kernel_rfl) (fun _ _ _ h => fin_panic h) hS (Val.pick rfl) ?_
                refine WD.take 25 rfl (by kernel_rfl) (fun _ _ _ h => fin_panic h) hS (Val.pick rfl) ?_
                refine WD.nil (by kernel_rfl) ?_
                have fbad : ¬ FileOk fs i f := fun hh => by
                  obtain ⟨x1, x2, x3⟩ := hh
                  first | omega | (have y1 := hb.2 x1; rw [y1] at d2; cases d2; done) | (have y3 := x3 g (by omega) hg; first | (rw [le_not_less, y3] at d23; cases d23; done))
                have h := hS
                refine W.condT rfl ?_
                refine W.seq (W.region rfl ?_)
                refine WL.p h Val.as ?_
                refine WL.nil ?_
                refine W.ret ?_
                exact fin1 (v := .bool false) rfl rfl (PB.no h.toExt (fun hp => fbad (hp.2.2.1 i f hf)))
              · refine WD.take 24 rfl (by kernel_rfl) (fun _ _ _ h => fin_panic h) hS (Val.pick rfl) ?_
                refine WD.take 25 rfl (by kernel_rfl) (fun _ _ _ h => fin_panic h) hS (Val.pick rfl) ?_
                refine WD.nil (by kernel_rfl) ?_
                have h := hS
                refine W.condF rfl ?_
                refine W.skip ?_
                refine ⟨h.keep 1, h1, h18, h19, h20, hb.1 d2, by omega, fun g' hi hg' => ?_⟩
                rw [hg] at hg'
                cases hg'
                first | omega | (rw [le_not_less] at d23; simpa using d23)
            · refine WD.take 13 rfl (by kernel_rfl) (fun _ _ _ h => fin_panic h) hS Val.mv ?_
              refine WD.skip 14 rfl (by kernel_rfl) (fun _ _ _ h => fin_panic h) hS rfl ?_
              refine WD.skip 15 rfl (by kernel_rfl) (fun _ _ _ h => fin_panic h) hS rfl ?_
              refine WD.skip 16 rfl (by kernel_rfl) (fun _ _ _ h => fin_panic h) hS rfl ?_
              refine WD.skip 17 rfl (by kernel_rfl) (fun _ _ _ h => fin_panic h) hS rfl ?_
              refine WD.skip 18 rfl (by kernel_rfl) (fun _ _ _ h => fin_panic h) hS rfl ?_
              refine WD.skip 19 rfl (by kernel_rfl) (fun _ _ _ h => fin_panic h) hS rfl ?_
              refine WD.skip 20 rfl (by kernel_rfl) (fun _ _ _ h => fin_panic h) hS rfl ?_
              refine WD.skip 21 rfl (by kernel_rfl) (fun _ _ _ h => fin_panic h) hS rfl ?_
              refine WD.skip 22 rfl (by kernel_rfl) (fun _ _ _ h => fin_panic h) hS rfl ?_
              refine WD.skip 23 rfl (by kernel_rfl) (fun _ _ _ h => fin_panic h) hS rfl ?_
              refine WD.take 24 rfl (by kernel_rfl) (fun _ _ _ h => fin_panic h) hS (Val.pick rfl) ?_
              refine WD.take 25 rfl (by kernel_rfl) (fun _ _ _ h => fin_panic h) hS (Val.pick rfl) ?_
              refine WD.nil (by kernel_rfl) ?_
              have h := hS
              refine W.condF rfl ?_
              refine W.skip ?_
              refine ⟨h.keep 1, h1, h18, h19, h20, hb.1 d2, by omega, fun g' hi hg' => ?_⟩
              rw [hg] at hg'
              cases hg'
              first | omega | (rw [le_not_less] at d23; simpa using d23)
        · refine WD.take 3 rfl (by kernel_rfl) (fun _ _ _ h => fin_panic h) hS (Val.not rfl) ?_
          refine WD.take 4 rfl (by kernel_rfl) (fun _ _ _ h => fin_panic h) hS Val.mv ?_
          refine WD.skip 5 rfl (by kernel_rfl) (fun _ _ _ h => fin_panic h) hS rfl ?_
          refine WD.skip 6 rfl (by kernel_rfl) (fun _ _ _ h => fin_panic h) hS rfl ?_
          refine WD.skip 7 rfl (by kernel_rfl) (fun _ _ _ h => fin_panic h) hS rfl ?_
          refine WD.skip 8 rfl (by kernel_rfl) (fun _ _ _ h => fin_panic h) hS rfl ?_
          refine WD.take 9 rfl (by kernel_rfl) (fun _ _ _ h => fin_panic h) hS (Val.pick rfl) ?_
          refine WD.take 10 rfl (by kernel_rfl) (fun _ _ _ h => fin_panic h) hS Val.mv ?_
          refine WD.skip 11 rfl (by kernel_rfl) (fun _ _ _ h => fin_panic h) hS rfl ?_
          refine WD.skip 12 rfl (by kernel_rfl) (fun _ _ _ h => fin_panic h) hS rfl ?_
          refine WD.skip 13 rfl (by kernel_rfl) (fun _ _ _ h => fin_panic h) hS rfl ?_
          refine WD.skip 14 rfl (by kernel_rfl) (fun _ _ _ h => fin_panic h) hS rfl ?_
          refine WD.skip 15 rfl (by kernel_rfl) (fun _ _ _ h => fin_panic h) hS rfl ?_
          refine WD.skip 16 rfl (by kernel_rfl) (fun _ _ _ h => fin_panic h) hS rfl ?_
          refine WD.skip 17 rfl (by kernel_rfl) (fun _ _ _ h => fin_panic h) hS rfl ?_
          refine WD.skip 18 rfl (by kernel_rfl) (fun _ _ _ h => fin_panic h) hS rfl ?_
          refine WD.skip 19 rfl (by kernel_rfl) (fun _ _ _ h => fin_panic h) hS rfl ?_
          refine WD.skip 20 rfl (by kernel_rfl) (fun _ _ _ h => fin_panic h) hS rfl ?_
          refine WD.skip 21 rfl (by kernel_rfl) (fun _ _ _ h => fin_panic h) hS rfl ?_
          refine WD.skip 22 rfl (by kernel_rfl) (fun _ _ _ h => fin_panic h) hS rfl ?_
          refine WD.skip 23 rfl (by kernel_rfl) (fun _ _ _ h => fin_panic h) hS rfl ?_
          refine WD.skip 24 rfl (by kernel_rfl) (fun _ _ _ h => fin_panic h) hS rfl ?_
          refine WD.take 25 rfl (by kernel_rfl) (fun _ _ _ h => fin_panic h) hS (Val.pick rfl) ?_
          refine WD.nil (by kernel_rfl) ?_
          have fbad : ¬ FileOk fs i f := fun hh => by
            obtain ⟨x1, x2, x3⟩ := hh
            first | omega | (have y1 := hb.2 x1; rw [y1] at d2; cases d2; done) | (have y3 := x3 g (by omega) hg; first | (rw [le_not_less, y3] at d23; cases d23; done))
          have h := hS
          refine W.condT rfl ?_
          refine W.seq (W.region rfl ?_)
          refine WL.p h Val.as ?_
          refine WL.nil ?_
          refine W.ret ?_
          exact fin1 (v := .bool false) rfl rfl (PB.no h.toExt (fun hp => fbad (hp.2.2.1 i f hf)))
      clear h h1 h18 h19 h20
      obtain ⟨h, h1, h18, h19, h20, hnew⟩ := hJ
      refine W.region rfl ?_
      refine WL.p h (Val.addi (c := ((i + 1 : Nat) : Int)) h20 rfl (by omega)) ?_
      refine WL.p h Val.mv ?_
      refine WL.nil ?_
      refine ⟨m - 1, by omega, i + 1, by omega, h, h1, h18, h19, rfl, fun j z hz hj => ?_⟩
      by_cases hij : j = i
      · rw [hij] at hz ⊢
        rw [hf] at hz
        exact Option.some.inj hz ▸ hnew
      · exact hall j z hz (by omega)
    · refine WL.nil ?_
      refine W.seq ?_
      refine W.condF rfl ?_
      refine W.exit ?_
      exact ⟨h, h1, fun j f hf => hall j f hf (by have := (List.getElem?_eq_some_iff.1 hf).1; omega)⟩
  clear h h1
  obtain ⟨h, h1, hfiles⟩ := hJ
  refine W.seq (W.seq (W.region rfl ?_))
  refine WL.p h (Val.fa O31_1 h1) ?_
  refine WL.p h (Val.ld 0 A24 rfl rfl rfl) ?_
  refine WL.p h (Val.len Try.underlying24 rfl hu.val) ?_
  refine WL.p h Val.mv ?_
  refine WL.nil ?_
  refine W.block ?_
  refine W.loop (inI w0 F v u ns b1) ns.length ?_ (fun m R w hI => ?_)
  · exact ⟨0, by omega, h, h1, rfl, rfl, rfl, fun j f _ hj => by omega⟩
  clear h h1
  obtain ⟨i, hm, h, h1, h53, h54, h55, hall⟩ := hI
  refine W.seq (W.region rfl ?_)
  refine WL.p h (Val.lt h55 h54) ?_
  refine WL.dec (fun c2 => ?_) (fun c2 => ?_)
  · have hlt : i < ns.length := by omega
    obtain ⟨n, hn⟩ : ∃ f, ns[i]? = some f := ⟨_, List.getElem?_eq_getElem hlt⟩
    obtain ⟨g, hg⟩ : ∃ g, ns[i - 1]? = some g := ⟨_, List.getElem?_eq_getElem (by omega)⟩
    refine WL.nil ?_
    refine W.seq ?_
    refine W.condT rfl ?_
    refine W.skip ?_
    refine W.cut (inC w0 F v u ns b1 i n) (W.block (W.seq (W.region rfl ?_))) (fun R w hJ => ?_)
    · refine WL.p h Val.mv ?_
      refine WL.p h (Val.ix Try.underlying24 T9 h53 h55 (hu.slice (by omega)) hlt) ?_
      refine WL.p h (Val.ldR A9 hu rfl (flat_get sc sc_len ns i 0 n _ hn rfl)) ?_
      refine WL.p h Val.as ?_
      refine WL.p h Val.as ?_
      refine WL.nil ?_
      refine W.seq (W.region rfl ?_)
      refine WL.p h Val.mv ?_
      refine WL.p h (Val.lenStr Try.underlying9 rfl) ?_
      refine WL.p h (Val.lt rfl rfl) ?_
      refine WL.dec (fun d2 => ?_) (fun d2 => ?_)
      · refine WL.p h Val.mv ?_
        refine WL.no rfl (?_)
        refine WL.no rfl (?_)
        refine WL.no rfl (?_)
        refine WL.p h (Val.pick rfl) ?_
        refine WL.p h Val.mv ?_
        refine WL.no rfl (?_)
        refine WL.no rfl (?_)
        refine WL.no rfl (?_)
        refine WL.no rfl (?_)
        refine WL.no rfl (?_)
        refine WL.no rfl (?_)
        refine WL.no rfl (?_)
        refine WL.no rfl (?_)
        refine WL.no rfl (?_)
        refine WL.no rfl (?_)
        refine WL.no rfl (?_)
        refine WL.no rfl (?_)
        refine WL.p h (Val.pick rfl) ?_
        refine WL.nil ?_
        have fbad : ¬ NameOk ns i n := fun hh => by
          obtain ⟨x1, x2, x3⟩ := hh
          first | omega | (have y3 := x3 g (by omega) hg; first | (rw [y3] at d19; cases d19; done) | (rw [le_not_less, y3] at d19; cases d19; done))
        refine W.condT rfl ?_
        refine W.seq (W.region rfl ?_)
        refine WL.p h Val.as ?_
        refine WL.nil ?_
        refine W.ret ?_
        exact fin1 (v := .bool false) rfl rfl (PB.no h.toExt (fun hp => fbad (hp.2.2.2 i n hn)))
      · refine WL.p h Val.mv ?_
        refine WL.p h Val.mv ?_
        refine WL.p h (Val.lenStr Try.underlying9 rfl) ?_
        refine WL.p h (Val.gt rfl rfl) ?_
        refine WL.dec (fun d6 => ?_) (fun d6 => ?_)
        · refine WL.p h (Val.pick rfl) ?_
          refine WL.p h Val.mv ?_
          refine WL.no rfl (?_)
          refine WL.no rfl (?_)
          refine WL.no rfl (?_)
          refine WL.no rfl (?_)
          refine WL.no rfl (?_)
          refine WL.no rfl (?_)
          refine WL.no rfl (?_)
          refine WL.no rfl (?_)
          refine WL.no rfl (?_)
          refine WL.no rfl (?_)
          refine WL.no rfl (?_)
          refine WL.no rfl (?_)
          refine WL.p h (Val.pick rfl) ?_
          refine WL.nil ?_
          have fbad : ¬ NameOk ns i n := fun hh => by
            obtain ⟨x1, x2, x3⟩ := hh
            first | omega | (have y3 := x3 g (by omega) hg; first | (rw [y3] at d19; cases d19; done) | (rw [le_not_less, y3] at d19; cases d19; done))
          refine W.condT rfl ?_
          refine W.seq (W.region rfl ?_)
          refine WL.p h Val.as ?_
          refine WL.nil ?_
          refine W.ret ?_
          exact fin1 (v := .bool false) rfl rfl (PB.no h.toExt (fun hp => fbad (hp.2.2.2 i n hn)))
        · refine WL.p h (Val.pick rfl) ?_
          refine WL.p h Val.mv ?_
          refine WL.p h Val.mv ?_
          refine WL.p h (Val.gt h55 rfl) ?_
          refine WL.dec (fun d10 => ?_) (fun d10 => ?_)
          · refine WL.p h Val.mv ?_
            refine WL.p h Val.mv ?_
            refine WL.p h (Val.fa O31_1 h1) ?_
            refine WL.p h (Val.ld 0 A24 rfl rfl rfl) ?_
            refine WL.p h Val.mv ?_
            refine WL.p h (Val.subi (c := ((i - 1 : Nat) : Int)) h55 rfl (by omega)) ?_
            refine WL.p h (Val.ix Try.underlying24 T9 rfl rfl (hu.slice (by omega)) (by omega)) ?_
            refine WL.p h (Val.ldR A9 hu rfl (flat_get sc sc_len ns (i - 1) 0 g _ hg rfl)) ?_
            refine WL.p h (Val.strLe rfl rfl) ?_
            refine WL.decB (fun d19 => ?_) (fun d19 => ?_)
            · refine WL.p h (Val.pick rfl) ?_
              refine WL.p h (Val.pick rfl) ?_
              refine WL.nil ?_
              have fbad : ¬ NameOk ns i n := fun hh => by
                obtain ⟨x1, x2, x3⟩ := hh
                first | omega | (have y3 := x3 g (by omega) hg; first | (rw [y3] at d19; cases d19; done) | (rw [le_not_less, y3] at d19; cases d19; done))
              refine W.condT rfl ?_
              refine W.seq (W.region rfl ?_)
              refine WL.p h Val.as ?_
              refine WL.nil ?_
              refine W.ret ?_
              exact fin1 (v := .bool false) rfl rfl (PB.no h.toExt (fun hp => fbad (hp.2.2.2 i n hn)))
            · refine WL.p h (Val.pick rfl) ?_
              refine WL.p h (Val.pick rfl) ?_
              refine WL.nil ?_
              refine W.condF rfl ?_
              refine W.skip ?_
              refine ⟨h, h1, h53, h54, h55, by omega, by omega, fun g' hi hg' => ?_⟩
              rw [hg] at hg'
              cases hg'
              first | omega | (simpa using d19) | (rw [le_not_less] at d19; simpa using d19)
          · refine WL.p h Val.mv ?_
            refine WL.no rfl (?_)
            refine WL.no rfl (?_)
            refine WL.no rfl (?_)
            refine WL.no rfl (?_)
            refine WL.no rfl (?_)
            refine WL.no rfl (?_)
            refine WL.no rfl (?_)
            refine WL.no rfl (?_)
            refine WL.p h (Val.pick rfl) ?_
            refine WL.p h (Val.pick rfl) ?_
            refine WL.nil ?_
            refine W.condF rfl ?_
            refine W.skip ?_
            refine ⟨h, h1, h53, h54, h55, by omega, by omega, fun g' hi hg' => ?_⟩
            rw [hg] at hg'
            cases hg'
            first | omega | (simpa using d19) | (rw [le_not_less] at d19; simpa using d19)
    clear h h1 h53 h54 h55
    obtain ⟨h, h1, h53, h54, h55, hnew⟩ := hJ
    refine W.region rfl ?_
    refine WL.p h (Val.addi (c := ((i + 1 : Nat) : Int)) h55 rfl (by omega)) ?_
    refine WL.p h Val.mv ?_
    refine WL.nil ?_
    refine ⟨m - 1, by omega, i + 1, by omega, h, h1, h53, h54, rfl, fun j z hz hj => ?_⟩
    by_cases hij : j = i
    · rw [hij] at hz ⊢
      rw [hn] at hz
      exact Option.some.inj hz ▸ hnew
    · exact hall j z hz (by omega)
  · refine WL.nil ?_
    refine W.seq ?_
    refine W.condF rfl ?_
    refine W.exit ?_
    refine W.seq (W.region rfl ?_)
    refine WL.p h Val.as ?_
    refine WL.nil ?_
    refine W.ret ?_
    exact fin1 (v := .bool true) rfl rfl (PB.yes h.toExt ⟨hl1, hl2, hfiles, fun j f hf => hall j f hf (by have := (List.getElem?_eq_some_iff.1 hf).1; omega)⟩)

theorem lawValidWorld_calls (F : Fz) (w0 : World) (hF : Sub F (hv w0)) (v u : Value) (fs : List Fl) (ns : List ByteArray) (hr : FRow F v fs.length 2 (rowF fs)) (hu : FRow F u ns.length 1 (rowS ns)) (hs : ∀ e ∈ fs, e.name.size ≤ 9223372036854775807 ∧ e.text.size ≤ 9223372036854775807) (hs2 : ∀ e ∈ ns, e.size ≤ 9223372036854775807) :
    Calls Try.prog 4 #[.agg #[v, u]] w0 fun e w' => e = .returned (.bool true) ∧ Below w0.heap.size w0 w' := by
  refine calls 27 Try.func4 rfl rfl rfl ?_
  have h := Hp.start hF
  refine W.seq (W.region rfl ?_)
  refine WL.box h rfl (fun b1 w h => ?_)
  refine WL.p h Val.as ?_
  refine WL.nil ?_
  refine W.seq (W.region rfl ?_)
  refine WL.p h Val.as ?_
  refine WL.nil ?_
  refine W.seq (W.region rfl ?_)
  refine WL.p h (Val.ldS 0 A26 T26 rfl rfl rfl) ?_
  refine WL.p h Val.mv ?_
  refine WL.call C10 (args := [.agg #[v, u], .int .i64 1048576]) rfl ((szWorld_calls F w h.sub v u fs ns hr hu 1048576 (by decide) hs hs2).mono ?_)
  rintro e w' ⟨r, rfl, hE, hr2⟩
  have h := h.call hE
  refine ⟨_, rfl, ?_⟩
  refine WL.p h Val.as ?_
  refine WL.nil ?_
  refine W.seq (W.seq (W.region rfl ?_))
  refine WL.p h Val.mv ?_
  refine WL.p h (Val.lt rfl rfl) ?_
  refine WL.dec (fun c => ?_) (fun c => ?_)
  · refine WL.nil ?_
    refine W.condT rfl ?_
    refine W.seq (W.region rfl ?_)
    refine WL.p h Val.as ?_
    refine WL.nil ?_
    refine W.ret ?_
    exact fin1 (v := .bool true) rfl rfl ⟨rfl, h.toExt.below⟩
  refine WL.nil ?_
  refine W.condF rfl ?_
  refine W.skip ?_
  have hB := hr2 (by omega)
  refine W.seq (W.region rfl ?_)
  refine WL.p h (Val.ldS 0 A26 T26 rfl rfl rfl) ?_
  refine WL.call C12 (args := [.agg #[v, u]]) rfl ((toWorld_calls F _ h.sub v u fs ns hr hu hB).mono ?_)
  rintro e w' ⟨F1, s1, t1, rfl, hE, hrow1, hrow1'⟩
  have h := h.call hE
  have hr := hr.mono hE.ext
  have hu := hu.mono hE.ext
  refine ⟨_, rfl, ?_⟩
  refine WL.call C11 (args := [.agg #[s1, t1]]) rfl ((specValidWorld_calls F1 _ h.sub s1 t1 fs ns hrow1 hrow1').mono ?_)
  rintro e w' ⟨b, rfl, hb, hE⟩
  have h := h.call hE
  refine ⟨_, rfl, ?_⟩
  refine WL.p h Val.as ?_
  refine WL.nil ?_
  refine W.seq (W.region rfl ?_)
  refine WL.p h (Val.ldS 0 A26 T26 rfl rfl rfl) ?_
  refine WL.call C12 (args := [.agg #[v, u]]) rfl ((toWorld_calls F1 _ h.sub v u fs ns hr hu hB).mono ?_)
  rintro e w' ⟨F2, s2, t2, rfl, hE, hrow2, hrow2'⟩
  have h := h.call hE
  have hr := hr.mono hE.ext
  have hu := hu.mono hE.ext
  refine ⟨_, rfl, ?_⟩
  refine WL.alloc h T31 (fun b5 w h => ?_)
  refine WL.stS 1 h rfl T31 rfl (vs := [s2, t2]) rfl (by obtain ⟨A, c, rfl, _⟩ := hrow2.val; obtain ⟨A', c', rfl, _⟩ := hrow2'.val; simp [Value.oneCell']) rfl rfl (fun w h => ?_)
  refine WL.nil ?_
  refine W.seq (W.region rfl ?_)
  refine WL.p h (Val.ldS 1 A31 T31 rfl rfl rfl) ?_
  refine WL.call C13 (args := [.agg #[s2, t2]]) rfl ((implValidWorld_calls F2 _ h.sub s2 t2 fs ns hrow2 hrow2').mono ?_)
  rintro e w' ⟨b', rfl, hb', hE⟩
  have h := h.call hE
  refine ⟨_, rfl, ?_⟩
  have hbb : b' = b := by
    cases b <;> cases b' <;> simp_all
  subst hbb
  refine WL.p h Val.as ?_
  refine WL.nil ?_
  refine W.seq (W.seq (W.region rfl ?_))
  refine WL.p h Val.mv ?_
  refine WL.p h Val.mv ?_
  refine WL.p h (Val.boolNe Try.underlying4 rfl rfl) ?_
  refine WL.nil ?_
  refine W.condF (show Value.bool (b' != b') = _ by simp) ?_
  refine W.skip ?_
  refine W.seq (W.seq (W.draw (fun w => Hp w0 F F2 [.box b1 [v, u] 26, .box b5 [s2, t2] 31] w) [] 5 (by kernel_rfl) rfl rfl ?_))
  have hS := h.drewN 1
  refine WD.take 0 rfl (by kernel_rfl) (fun _ _ _ h => fin_panic h) hS (Val.ldS 1 A31 T31 rfl rfl rfl) ?_
  refine WD.take 1 rfl (by kernel_rfl) (fun _ _ _ h => fin_panic h) hS (Val.ldS 0 A26 T26 rfl rfl rfl) ?_
  refine WD.one 2 rfl (by kernel_rfl) ?_
  refine WL.call C12 (args := [.agg #[v, u]]) rfl ((toWorld_calls F2 _ hS.sub v u fs ns hr hu hB).mono ?_)
  rintro e w' ⟨F3, s3, t3, rfl, hE, hrow3, hrow3'⟩
  have h := hS.call hE
  have hS := h.weak (hS.ext) hE.ext
  refine ⟨_, rfl, ?_⟩
  refine WL.nil ?_
  refine ⟨hS, ?_⟩
  refine WD.one 3 rfl (by kernel_rfl) ?_
  refine WL.call C14 (args := [.agg #[s2, t2], .agg #[s3, t3]]) rfl ((eqWorld_calls F3 _ h.sub s2 t2 s3 t3 fs ns (hrow2.mono hE.ext) (hrow2'.mono hE.ext) hrow3 hrow3').mono ?_)
  rintro e w' ⟨rfl, hE⟩
  have hS := hS.below_step hE.below
  refine ⟨_, rfl, ?_⟩
  refine WL.nil ?_
  refine ⟨hS, ?_⟩
  refine WD.take 4 rfl (by kernel_rfl) (fun _ _ _ h => fin_panic h) hS (Val.not rfl) ?_
  refine WD.nil (by kernel_rfl) ?_
  have h := hS
  refine W.condF rfl ?_
  refine W.skip ?_
  refine W.seq (W.region rfl ?_)
  refine WL.p h Val.as ?_
  refine WL.nil ?_
  refine W.ret ?_
  exact fin1 (v := .bool true) rfl rfl ⟨rfl, hS.below⟩
end Go.Proofs.Ytmiihhbgfijcmaa.K

