/- l5Spoil: a value spoilt; l5Any, DrawOrder; told loosely. -/
import Derived.Test.YtmiihhbgfijcmaaDe
namespace Go.Proofs.Ytmiihhbgfijcmaa.K
open Go Go.RowKit
set_option linter.unusedVariables false
set_option linter.unusedSimpArgs false
set_option maxRecDepth 20000
theorem C81 : CF Try.prog 81 := ⟨_, Try.func81, rfl, rfl⟩
theorem C56 : CF Try.prog 56 := ⟨_, Try.func56, rfl, rfl⟩
theorem C26 : CF Try.prog 26 := ⟨_, Try.func26, rfl, rfl⟩
theorem W.cutT {P : Program} {n : Nat} {x : Code} {K : Regs → World → Prop} {Q : Post} {R : Regs} {w : World} (J : Regs → World → Prop) (h : W P n x (thn J Q) R w) (k : ∀ R w, J R w → K R w) : W P n x (thn K Q) R w :=
  h.mono fun e R w hq => by cases e <;> first | exact k R w hq | exact hq
section
variable {P : Program} {R : Regs} {w0 w : World} {F0 F F' : Fz} {L : List Ch} {d : Option Nat} {ty : TypeId} {pos : String} {af : Array Edge} {g : Option (Nat × Bool)}
theorem Val.faA {S : World → Prop} {s f off b o : Nat} {x : Operand} (hf : FO P s f off) (hx : ev R x = .pointer (some ⟨b, o, none⟩)) : Val P S R ⟨d, .fieldAddr s x f, ty, pos, af, g⟩ (.pointer (some ⟨b, o + off, none⟩)) := fun w _ => by
  have h := hf ⟨b, o, none⟩ w
  rw [add_plain] at h
  simp only [execOp, hx, Sem.run_bind, h, Result.andThen_ok, Sem.run_pure]
theorem held_pre {b T n size c : Nat} {cs xs : List Value} (hc : n ≤ c) (hm : n ≤ 9223372036854775807) (hl : xs.length = n * size) (hx : cs.take (n * size) = xs) : Held (.box b cs T) (.slice (some ⟨b, 0, none⟩) n c) n size xs := fun G w hw hb =>
  ⟨hl, hm, ⟨_, c, rfl, hc⟩, .inr ⟨b, 0, c, cs.toArray, T, (0, 0), rfl, (hb b rfl).trans hw, fun j u hu => by
    rw [Nat.zero_add]
    rw [← hx, List.getElem?_take] at hu
    split at hu
    · simpa using hu
    · cases hu⟩⟩
variable {br : Nat} {bv : Value} {p p' C : Int} {B : Nat} {s : Value} {c : Ch} {es : List At}
theorem PA.mk' (h : Hp w0 F0 F L w) (h0 : Sub F0 F') (hs : Sub F' F) (i j : Nat) (hij : i ≠ j) (hi : L[i]? = some (rd br bv p')) (hj : L[j]? = some c) (hh : Held c s es.length 4 (rowA es)) (h1 : p ≤ p') (h2 : p' ≤ p + C) (h4 : es.length ≤ B) : PA w0 F0 F' br bv p C B (.returned (.agg #[s])) w :=
  ⟨s, es, c, p', rfl, (h.weak h0 hs).two i j hij hi hj, hh, h1, h2, h4⟩
end
theorem rowA_take (es : List At) (k : Nat) : (rowA es).take (k * 4) = rowA (es.take k) := flat_take At.cells At.cells_len es k
theorem rowA_drop (es : List At) (k : Nat) : (rowA es).drop (k * 4) = rowA (es.drop k) := flat_drop At.cells At.cells_len es k
theorem set_row {es : List At} {cs : List Value} {k : Nat} {a' : At} (hk : k < es.length) (hl : es.length * 4 ≤ cs.length) (ht : cs.take (es.length * 4) = rowA es) : (cs.take (k * 4) ++ a'.cells ++ cs.drop (k * 4 + 4)).take (es.length * 4) = rowA (es.take k ++ [a'] ++ es.drop (k + 1)) := by
  have h1 : cs.take (k * 4) = rowA (es.take k) := by
    rw [← rowA_take, ← ht, List.take_take, Nat.min_eq_left (by omega)]
  have h2 : (cs.drop (k * 4 + 4)).take (es.length * 4 - (k * 4 + 4)) = rowA (es.drop (k + 1)) := by
    rw [← rowA_drop, ← ht, show (k + 1) * 4 = k * 4 + 4 by omega, List.drop_take]
  have hlen : (cs.take (k * 4) ++ a'.cells).length = k * 4 + 4 := by
    rw [List.length_append, List.length_take, At.cells_len]; omega
  rw [List.take_append, hlen, h2, List.take_of_length_le (by rw [hlen]; omega), h1, rowA_app, rowA_app]
  simp [rowA]
set_option maxHeartbeats 4000000 in
theorem l5Spoil_calls {w0 w : World} {F0 F : Fz} {br : Nat} {bv : Value} {p : Int} {bs : List UInt8} (h : Hp w0 F0 F [rd br bv p] w) (hr : FRow F bv bs.length 1 (rowB bs)) (hl : bs.length ≤ 2000) (hp : 0 ≤ p ∧ p ≤ 1099511600000)
    (s : Value) (es : List At) (hs : FRow F s es.length 4 (rowA es)) (hne : es ≠ []) (hB : es.length ≤ 2000) :
    Calls Try.prog 81 #[pt br, .agg #[s]] w (PA w0 F0 F br bv p 10 (es.length + 1)) := by
  have hpos := List.length_pos_iff.2 hne
  refine calls 87 Try.func81 rfl rfl rfl ?_
  have h0F := h.ext
  refine W.seq (W.region rfl ?_)
  refine WL.box h (cs := [s]) rfl (fun b3 w h => ?_)
  refine WL.alloc h T42 (fun b4 w h => ?_)
  refine WL.nil ?_
  obtain ⟨sc, hsc⟩ := hs.slice hpos
  refine W.seq (W.region rfl ?_)
  refine WL.bs0 h Try.underlying40 T79 (fun b8 w h => ?_)
  refine WL.p h (Val.fa O42_0 rfl) ?_
  refine WL.p h (Val.ld 1 A40 rfl rfl rfl) ?_
  refine WL.app 3 h rfl Try.underlying40 T79 (by decide) rfl hsc (news := rowA es) (rowA_len es) (row_news h hs) (fun u hu => by
    simp only [rowA, List.mem_flatMap] at hu
    obtain ⟨a, _, hu⟩ := hu
    exact at_one a u hu) (by omega) (by omega) (fun s' w h => ?_)
  obtain ⟨b9, c9, cs9, rfl, hc9, hbox, hcl, hct⟩ := h.ownBox 3 rfl (by omega)
  have hct : cs9.take (es.length * 4) = rowA es := by simpa using hct
  have hcl : es.length * 4 ≤ cs9.length := by simpa using hcl
  clear hbox
  refine WL.p h (Val.build1 rfl (B42 _ _ _)) ?_
  refine WL.alloc h T42 (fun b5 w h => ?_)
  refine WL.stS 4 h rfl T42 rfl (vs := [.slice (some ⟨b9, 0, none⟩) (0 + es.length) c9]) rfl (one1 rfl) rfl rfl (fun w h => ?_)
  refine WL.nil ?_
  have h : Hp w0 F0 F [rd br bv p, .box b3 [s] 42, .box b4 [.slice none 0 0] 42, .own (.slice (some ⟨b9, 0, none⟩) es.length c9) 79 4 es.length (rowA es), .box b5 [.slice (some ⟨b9, 0, none⟩) es.length c9] 42] w := h.cast (by simp; rfl)
  have hc9 : es.length ≤ c9 := by omega
  refine W.seq (W.region rfl ?_)
  refine WL.p h Val.mv ?_
  refine WL.p h (Val.fa O42_0 rfl) ?_
  refine WL.p h (Val.ld 4 A40 rfl rfl (v := .slice (some ⟨b9, 0, none⟩) es.length c9) rfl) ?_
  refine WL.p h (Val.len (n := es.length) Try.underlying40 rfl ⟨_, c9, rfl, hc9⟩) ?_
  refine WL.call C57 (args := [pt br, .int .i64 (es.length : Int)]) rfl ((pickL h 0 rfl hr hl (by omega) _ (by omega)).mono ?_)
  rintro e w' ⟨k, rfl, h, hk1, hk2⟩
  refine ⟨_, rfl, ?_⟩
  have hk2 := hk2 (by omega)
  obtain ⟨k, rfl⟩ : ∃ y : Nat, k = y := ⟨k.toNat, by omega⟩
  have hk : k < es.length := by omega
  obtain ⟨a, ha⟩ : ∃ a, es[k]? = some a := ⟨_, List.getElem?_eq_getElem hk⟩
  refine WL.p h Val.as ?_
  refine WL.nil ?_
  refine W.seq (W.region rfl ?_)
  refine WL.p h (Val.fa O42_0 rfl) ?_
  refine WL.p h (Val.ld 4 A40 rfl rfl (v := .slice (some ⟨b9, 0, none⟩) es.length c9) rfl) ?_
  refine WL.p h Val.mv ?_
  refine WL.p h (Val.ix (i := k) (n := es.length) Try.underlying40 T79 rfl rfl ⟨_, rfl⟩ hk) ?_
  refine WL.p h (Val.ldOS 3 A79 T79 rfl rfl (cs := a.cells) rfl (fun j u hu => flat_get At.cells At.cells_len es k j a u ha hu)) ?_
  refine WL.alloc h T79 (fun b7 w h => ?_)
  refine WL.stS 5 h rfl T79 rfl (vs := a.cells) rfl (at_one a) rfl rfl (fun w h => ?_)
  refine WL.nil ?_
  refine W.seq (W.seq (W.region rfl ?_))
  refine WL.p h Val.mv ?_
  refine WL.call C57 (args := [pt br, .int .i64 6]) rfl ((pickL h 0 rfl hr hl (by omega) 6 (by omega)).mono ?_)
  rintro e w' ⟨r, rfl, h, hr1, hr2⟩
  refine ⟨_, rfl, ?_⟩
  refine WL.nil ?_
  have hAt : ∀ {w : World} {L' : List Ch} {s'' : Value} {es' : List At} {p2 : Int}, Hp w0 F0 F ([rd br bv p2, .box b3 [s] 42, .box b4 [s''] 42, .own s'' 79 4 es'.length (rowA es')] ++ L') w → p ≤ p2 → p2 ≤ p + 10 → es'.length ≤ es.length + 1 → PA w0 F0 F br bv p 10 (es.length + 1) (.returned (.agg #[s''])) w := fun h h1 h2 h3 =>
    PA.mk' h h0F (Sub.refl _) 0 3 (by decide) rfl rfl held_own h1 h2 h3
  refine W.cutT (fun R w => ∃ (a' : At) (p2 : Int), Hp w0 F0 F [rd br bv p2, .box b3 [s] 42, .box b4 [.slice none 0 0] 42, .own (.slice (some ⟨b9, 0, none⟩) es.length c9) 79 4 es.length (rowA es), .box b5 [.slice (some ⟨b9, 0, none⟩) es.length c9] 42, .box b7 a'.cells 79] w ∧ p ≤ p2 ∧ p2 ≤ p + 10 ∧ R 4 = pt b4 ∧ R 5 = pt b5 ∧ R 6 = .int .i64 (k : Int) ∧ R 7 = pt b7) ?_ ?_
  · refine W.block ?_
    refine W.seq (W.region rfl ?_)
    refine WL.p h (Val.eq (a := r) (b := 0) rfl rfl) ?_
    refine WL.dec (fun c0 => ?_) (fun c0 => ?_)
    · refine WL.p h Val.as ?_
      refine WL.nil ?_
      refine W.condT rfl ?_
      refine W.region rfl ?_
      refine WL.p h Val.mv ?_
      refine WL.call C57 (args := [pt br, .int .i64 9]) rfl ((pickL h 0 rfl hr hl (by omega) 9 (by omega)).mono ?_)
      rintro e w' ⟨x, rfl, h, hx1, hx2⟩
      refine ⟨_, rfl, ?_⟩
      have hx2 := hx2 (by omega)
      refine WL.p h (Val.subi (a := x) (b := 1) (c := x - 1) rfl rfl (by omega)) ?_
      refine WL.p h (Val.fa O79_0 rfl) ?_
      refine WL.st 5 (v := .int .i64 (x - 1)) h rfl T3 rfl rfl rfl rfl (fun w h => ?_)
      refine WL.nil ?_
      exact ⟨⟨x - 1, a.n, a.t, a.c⟩, _, h, by omega, by omega, rfl, rfl, rfl, rfl⟩
    refine WL.p h Val.as ?_
    refine WL.nil ?_
    refine W.condF rfl ?_
    refine W.seq (W.region rfl ?_)
    refine WL.p h (Val.eq (a := r) (b := 1) rfl rfl) ?_
    refine WL.dec (fun c1 => ?_) (fun c1 => ?_)
    · refine WL.p h Val.as ?_
      refine WL.nil ?_
      refine W.condT rfl ?_
      refine W.region rfl ?_
      refine WL.bsN h Try.underlying148 T2 (vs := [2, -1, 1].map intV) rfl rfl (by decide) (one_map _ (fun _ => rfl) _) (fun b8 w h => ?_)
      refine WL.p h Val.mv ?_
      refine WL.call C57 (args := [pt br, .int .i64 3]) rfl ((pickL h 0 rfl hr hl (by omega) 3 (by omega)).mono ?_)
      rintro e w' ⟨x, rfl, h, hx1, hx2⟩
      refine ⟨_, rfl, ?_⟩
      have hx2 := hx2 (by omega)
      obtain ⟨x, rfl⟩ : ∃ y : Nat, x = y := ⟨x.toNat, by omega⟩
      obtain ⟨nn, hnn⟩ := get_map intV [2, -1, 1] x (by show x < 3; omega)
      refine WL.p h (Val.ix (i := x) (n := 3) Try.underlying148 T2 rfl rfl ⟨_, rfl⟩ (by omega)) ?_
      refine WL.p h (Val.ld 6 A2 rfl rfl (v := intV nn) (by show ([2, -1, 1].map intV)[0 + x * 1]? = _; rw [Nat.zero_add, Nat.mul_one]; exact hnn)) ?_
      refine WL.p h (Val.fa O79_1 rfl) ?_
      refine WL.st 5 (v := intV nn) h rfl T2 rfl rfl rfl rfl (fun w h => ?_)
      refine WL.nil ?_
      exact ⟨⟨a.k, nn, a.t, a.c⟩, _, h.keep 6, by omega, by omega, rfl, rfl, rfl, rfl⟩
    refine WL.p h Val.as ?_
    refine WL.nil ?_
    refine W.condF rfl ?_
    refine W.seq (W.region rfl ?_)
    refine WL.p h (Val.eq (a := r) (b := 2) rfl rfl) ?_
    refine WL.dec (fun c2 => ?_) (fun c2 => ?_)
    · refine WL.p h Val.as ?_
      refine WL.nil ?_
      refine W.condT rfl ?_
      refine W.region rfl ?_
      refine WL.p h Val.mv ?_
      refine WL.call C57 (args := [pt br, .int .i64 2]) rfl ((pickL h 0 rfl hr hl (by omega) 2 (by omega)).mono ?_)
      rintro e w' ⟨y, rfl, h, hy1, hy2⟩
      refine ⟨_, rfl, ?_⟩
      have hy2 := hy2 (by omega)
      refine WL.p h (Val.addi (a := 1000) (b := y) (c := 1000 + y) rfl rfl (by omega)) ?_
      refine WL.call C101 (args := [.string ⟨#[116]⟩, .int .i64 (1000 + y)]) rfl ((l1Many_calls F _ h.sub ⟨#[116]⟩ (1000 + y) rfl (by omega)).mono ?_)
      rintro e w' ⟨tt, rfl, hE⟩
      have h := h.call hE
      refine ⟨_, rfl, ?_⟩
      refine WL.bsN h Try.underlying24 T9 (vs := [⟨#[]⟩, ⟨#[116]⟩, tt].map Value.string) rfl rfl (by decide) (one_map _ (fun _ => rfl) _) (fun b8 w h => ?_)
      refine WL.p h Val.mv ?_
      refine WL.call C57 (args := [pt br, .int .i64 3]) rfl ((pickL h 0 rfl hr hl (by omega) 3 (by omega)).mono ?_)
      rintro e w' ⟨x, rfl, h, hx1, hx2⟩
      refine ⟨_, rfl, ?_⟩
      have hx2 := hx2 (by omega)
      obtain ⟨x, rfl⟩ : ∃ y : Nat, x = y := ⟨x.toNat, by omega⟩
      obtain ⟨nn, hnn⟩ := get_map Value.string [⟨#[]⟩, ⟨#[116]⟩, tt] x (by show x < 3; omega)
      refine WL.p h (Val.ix (i := x) (n := 3) Try.underlying24 T9 rfl rfl ⟨_, rfl⟩ (by omega)) ?_
      refine WL.p h (Val.ld 6 A9 rfl rfl (v := Value.string nn) (by show ([⟨#[]⟩, ⟨#[116]⟩, tt].map Value.string)[0 + x * 1]? = _; rw [Nat.zero_add, Nat.mul_one]; exact hnn)) ?_
      refine WL.p h (Val.fa O79_2 rfl) ?_
      refine WL.st 5 (v := Value.string nn) h rfl T9 rfl rfl rfl rfl (fun w h => ?_)
      refine WL.nil ?_
      exact ⟨⟨a.k, a.n, nn, a.c⟩, _, h.keep 6, by omega, by omega, rfl, rfl, rfl, rfl⟩
    refine WL.p h Val.as ?_
    refine WL.nil ?_
    refine W.condF rfl ?_
    refine W.seq (W.region rfl ?_)
    refine WL.p h (Val.eq (a := r) (b := 3) rfl rfl) ?_
    refine WL.dec (fun c3 => ?_) (fun c3 => ?_)
    · refine WL.p h Val.as ?_
      refine WL.nil ?_
      refine W.condT rfl ?_
      refine W.draw (fun _ => True) [4, 5, 6, 7] 8 (by kernel_rfl) rfl rfl ?_
      have h := h.drewN 1
      have hS := trivial
      refine WD.take 0 rfl (by kernel_rfl) (fun _ _ _ h => fin_panic h) hS (Val.faA O79_3 rfl) ?_
      refine WD.take 2 rfl (by kernel_rfl) (fun _ _ _ h => fin_panic h) hS Val.mv ?_
      refine WD.all2 1 3 (by kernel_rfl) rfl rfl ?_ ?_
      · refine WL.p h (Val.ld 5 A3 rfl rfl rfl) ?_
        refine WL.nil ?_
        refine ⟨trivial, ?_⟩
        refine WD.one 3 rfl (by kernel_rfl) ?_
        refine WL.call C57 (args := [pt br, .int .i64 3]) rfl ((pickL h 0 rfl hr hl (by omega) 3 (by omega)).mono ?_)
        rintro e w' ⟨x, rfl, h, hx1, hx2⟩
        refine ⟨_, rfl, ?_⟩
        refine WL.nil ?_
        refine ⟨trivial, ?_⟩
        refine WD.last 4 rfl (by kernel_rfl) rfl ?_
        refine WL.p h (Val.add (a := a.c) (b := x) rfl rfl) ?_
        refine WL.nil ?_
        refine WD.last 5 rfl (by kernel_rfl) rfl ?_
        refine WL.p h (Val.sub (b := 1) rfl rfl) ?_
        refine WL.nil ?_
        refine WD.last 6 rfl (by kernel_rfl) rfl ?_
        refine WL.p h (Val.fa O79_3 rfl) ?_
        refine WL.nil ?_
        refine WD.last 7 rfl (by kernel_rfl) rfl ?_
        refine WL.st 5 (v := .int .i64 (IntKind.i64.wrap (IntKind.i64.wrap (a.c + x) - 1))) h rfl T3 rfl rfl rfl rfl (fun w h => ?_)
        refine WL.nil ?_
        refine WD.nil (by kernel_rfl) ?_
        exact ⟨⟨a.k, a.n, a.t, IntKind.i64.wrap (IntKind.i64.wrap (a.c + x) - 1)⟩, _, h, by omega, by omega, rfl, rfl, rfl, rfl⟩
      · refine WL.call C57 (args := [pt br, .int .i64 3]) rfl ((pickL h 0 rfl hr hl (by omega) 3 (by omega)).mono ?_)
        rintro e w' ⟨x, rfl, h, hx1, hx2⟩
        refine ⟨_, rfl, ?_⟩
        refine WL.nil ?_
        refine ⟨trivial, ?_⟩
        refine WD.one 1 rfl (by kernel_rfl) ?_
        refine WL.p h (Val.ld 5 A3 rfl rfl rfl) ?_
        refine WL.nil ?_
        refine ⟨trivial, ?_⟩
        refine WD.last 4 rfl (by kernel_rfl) rfl ?_
        refine WL.p h (Val.add (a := a.c) (b := x) rfl rfl) ?_
        refine WL.nil ?_
        refine WD.last 5 rfl (by kernel_rfl) rfl ?_
        refine WL.p h (Val.sub (b := 1) rfl rfl) ?_
        refine WL.nil ?_
        refine WD.last 6 rfl (by kernel_rfl) rfl ?_
        refine WL.p h (Val.fa O79_3 rfl) ?_
        refine WL.nil ?_
        refine WD.last 7 rfl (by kernel_rfl) rfl ?_
        refine WL.st 5 (v := .int .i64 (IntKind.i64.wrap (IntKind.i64.wrap (a.c + x) - 1))) h rfl T3 rfl rfl rfl rfl (fun w h => ?_)
        refine WL.nil ?_
        refine WD.nil (by kernel_rfl) ?_
        exact ⟨⟨a.k, a.n, a.t, IntKind.i64.wrap (IntKind.i64.wrap (a.c + x) - 1)⟩, _, h, by omega, by omega, rfl, rfl, rfl, rfl⟩
    refine WL.p h Val.as ?_
    refine WL.nil ?_
    refine W.condF rfl ?_
    refine W.seq (W.region rfl ?_)
    refine WL.p h (Val.eq (a := r) (b := 4) rfl rfl) ?_
    refine WL.dec (fun c4 => ?_) (fun c4 => ?_)
    · refine WL.p h Val.as ?_
      refine WL.nil ?_
      refine W.condT rfl ?_
      have hrowS := fromS_row (h.row 3 rfl) (i := k + 1) (by omega)
      obtain ⟨ad, cc, had, hadrow⟩ : ∃ ad cc, fromS (.slice (some ⟨b9, 0, none⟩) es.length c9) (k + 1) 4 = .slice (some ad) (es.length - (k + 1)) cc ∧ ∀ (w' : World), FRow (hv w') (fromS (.slice (some ⟨b9, 0, none⟩) es.length c9) (k + 1) 4) (es.length - (k + 1)) 4 ((rowA es).drop ((k + 1) * 4)) → ∀ j u, ((rowA es).drop ((k + 1) * 4))[j]? = some u → w'.cell? (ad.add j) = some u := by
        by_cases hz : es.length - (k + 1) = 0
        · by_cases hcc : c9 = k + 1
          · refine ⟨⟨b9, 0, none⟩, c9 - (k + 1), by simp [fromS, hcc], fun w' _ j u hu => ?_⟩
            rw [List.drop_eq_nil_of_le (by rw [rowA_len]; omega)] at hu
            simp at hu
          · refine ⟨_, c9 - (k + 1), by simp [fromS, hcc]; rfl, fun w' _ j u hu => ?_⟩
            rw [List.drop_eq_nil_of_le (by rw [rowA_len]; omega)] at hu
            simp at hu
        · obtain ⟨c', hc'⟩ := hrowS.slice (by omega)
          refine ⟨_, _, hc', fun w' hr j u hu => ?_⟩
          rw [add_plain]; exact hr.cell (Sub.refl _) hu
      have h := h.head 3 (k := k) rfl (by omega)
      refine W.seq (W.draw (fun w => Hp w0 F0 F [rd br bv (p + 1 + 1), .box b3 [s] 42, .box b4 [.slice none 0 0] 42, .own (headS (.slice (some ⟨b9, 0, none⟩) es.length c9) k) 79 4 k ((rowA es).take (k * 4)), .box b5 [.slice (some ⟨b9, 0, none⟩) es.length c9] 42, .box b7 a.cells 79] w) [9, 10, 11] 12 (by kernel_rfl) rfl rfl ?_)
      have h := h.drewN 1
      have hS := h
      refine WD.take 0 rfl (by kernel_rfl) (fun _ _ _ h => fin_panic h) hS (Val.fa O42_0 rfl) ?_
      refine WD.take 1 rfl (by kernel_rfl) (fun _ _ _ h => fin_panic h) hS (Val.ld 4 A40 rfl rfl rfl) ?_
      refine WD.take 2 rfl (by kernel_rfl) (fun _ _ _ h => fin_panic h) hS Val.mv ?_
      refine WD.take 3 rfl (by kernel_rfl) (fun _ _ _ h => fin_panic h) hS (Val.slToV (i := k) Try.underlying40 T79 rfl rfl ⟨_, _, rfl, hc9⟩ (by omega)) ?_
      refine WD.take 4 rfl (by kernel_rfl) (fun _ _ _ h => fin_panic h) hS (Val.fa O42_0 rfl) ?_
      refine WD.take 5 rfl (by kernel_rfl) (fun _ _ _ h => fin_panic h) hS (Val.ld 4 A40 rfl rfl rfl) ?_
      refine WD.take 6 rfl (by kernel_rfl) (fun _ _ _ h => fin_panic h) hS Val.mv ?_
      refine WD.take 7 rfl (by kernel_rfl) (fun _ _ _ h => fin_panic h) hS (Val.addi (c := ((k + 1 : Nat) : Int)) rfl rfl (by omega)) ?_
      refine WD.take 8 rfl (by kernel_rfl) (fun _ _ _ h => fin_panic h) hS (Val.slFromV (i := k + 1) Try.underlying40 T79 rfl rfl ⟨_, _, rfl, hc9⟩ (by omega)) ?_
      refine WD.last 9 rfl (by kernel_rfl) rfl ?_
      refine WL.app 3 h rfl Try.underlying40 T79 (by decide) rfl had (news := (rowA es).drop ((k + 1) * 4)) (by rw [List.length_drop, rowA_len]; omega) (hadrow _ hrowS) (fun u hu => by
        have hu := List.mem_of_mem_drop hu
        simp only [rowA, List.mem_flatMap] at hu
        obtain ⟨a, _, hu⟩ := hu
        exact at_one a u hu) (by omega) (by omega) (fun s' w h => ?_)
      refine WL.nil ?_
      refine WD.last 10 rfl (by kernel_rfl) rfl ?_
      refine WL.p h (Val.fa O42_0 rfl) ?_
      refine WL.nil ?_
      refine WD.last 11 rfl (by kernel_rfl) rfl ?_
      refine WL.st 4 (v := s') h rfl T40 rfl rfl (h.own1 3 rfl) rfl (fun w h => ?_)
      refine WL.nil ?_
      refine WD.nil (by kernel_rfl) ?_
      refine W.seq (W.region rfl ?_)
      refine WL.p h (Val.ldS 4 A42 T42 rfl rfl rfl) ?_
      refine WL.stS 2 h rfl T42 rfl (vs := [s']) rfl (one1 (h.own1 3 rfl)) rfl rfl (fun w h => ?_)
      refine WL.nil ?_
      refine W.ret ?_
      refine finBox h 2 rfl rfl rfl A42 T42 rfl (hAt (p2 := p + 1 + 1) (es' := es.take k ++ es.drop (k + 1)) (L' := []) ((h.keep 4).cast ?_) (by omega) (by omega) (by simp; omega))
      have e1 : (es.take k ++ es.drop (k + 1)).length = k + (es.length - (k + 1)) := by simp; omega
      rw [e1, rowA_app, rowA_take, rowA_drop]
      rfl
    refine WL.p h Val.as ?_
    refine WL.nil ?_
    refine W.condF rfl ?_
    refine W.seq (W.region rfl ?_)
    refine WL.p h (Val.fa O42_0 rfl) ?_
    refine WL.p h (Val.ld 4 A40 rfl rfl (v := .slice (some ⟨b9, 0, none⟩) es.length c9) rfl) ?_
    refine WL.p h (Val.ldS 5 A79 T79 rfl rfl rfl) ?_
    refine WL.bs1 h Try.underlying40 T79 (by decide) (cs := a.cells) rfl rfl (fun b10 w h => ?_)
    refine WL.app 3 h rfl Try.underlying40 T79 (by decide) rfl rfl (news := a.cells) rfl (box_news h (i := 6) rfl) (at_one a) (by omega) (by omega) (fun s' w h => ?_)
    refine WL.p h (Val.fa O42_0 rfl) ?_
    refine WL.st 4 (v := s') h rfl T40 rfl rfl (h.own1 3 rfl) rfl (fun w h => ?_)
    refine WL.nil ?_
    refine W.seq (W.region rfl ?_)
    refine WL.p h (Val.ldS 4 A42 T42 rfl rfl rfl) ?_
    refine WL.stS 2 h rfl T42 rfl (vs := [s']) rfl (one1 (h.own1 3 rfl)) rfl rfl (fun w h => ?_)
    refine WL.nil ?_
    refine W.ret ?_
    refine finBox h 2 rfl rfl rfl A42 T42 rfl (hAt (p2 := p + 1 + 1) (es' := es ++ [a]) (L' := []) ((h.keep 4).cast ?_) (by omega) (by omega) (by simp))
    rw [List.length_append, rowA_app]
    simp [rowA]
  clear h
  rintro R w ⟨a', p2, h, hp1, hp2, h4, h5, h6, h7⟩
  refine W.seq (W.region rfl ?_)
  refine WL.p h (Val.fa O42_0 h5) ?_
  refine WL.p h (Val.ld 4 A40 rfl rfl (v := .slice (some ⟨b9, 0, none⟩) es.length c9) rfl) ?_
  refine WL.p h Val.mv ?_
  refine WL.p h (Val.ldS 5 A79 T79 rfl h7 rfl) ?_
  refine WL.p h (Val.ix (i := k) (n := es.length) Try.underlying40 T79 rfl h6 ⟨_, rfl⟩ hk) ?_
  obtain ⟨b, cx, cs, hbe, hcx, h, hcl2, hct2⟩ := h.ownBox 3 rfl (by omega)
  simp only [Value.slice.injEq, Option.some.injEq, Addr.mk.injEq, and_true, true_and] at hbe
  obtain ⟨rfl, rfl⟩ := hbe
  refine WL.stA 3 (o := k * 4) h rfl T79 (show Value.pointer (some ⟨b9, 0 + k * 4, none⟩) = _ by rw [Nat.zero_add]) (vs := a'.cells) rfl (at_one a') rfl (by rw [At.cells_len]; omega) (fun w h => ?_)
  refine WL.nil ?_
  refine W.seq (W.region rfl ?_)
  refine WL.p h (Val.ldS 4 A42 T42 rfl h5 rfl) ?_
  refine WL.stS 2 h rfl T42 h4 (vs := [.slice (some ⟨b9, 0, none⟩) es.length c9]) rfl (one1 rfl) rfl rfl (fun w h => ?_)
  refine WL.nil ?_
  refine W.ret ?_
  have hlen' : (es.take k ++ [a'] ++ es.drop (k + 1)).length = es.length := by simp; omega
  refine finBox h 2 rfl h4 rfl A42 T42 rfl (PA.mk' (es := es.take k ++ [a'] ++ es.drop (k + 1)) h h0F (Sub.refl _) 0 3 (by decide) rfl rfl ?_ hp1 (by omega) (by rw [hlen']; omega))
  rw [hlen']
  exact held_pre hc9 (by omega) (by rw [rowA_len, hlen']) (set_row hk hcl2 hct2)

theorem Val.ex {P : Program} {R : Regs} {o : Oper} {v : Value} {α : Type} {f : α → World → Prop} (h : ∀ x, Val P (f x) R o v) : Val P (fun w => ∃ x, f x w) R o v := fun w ⟨x, hx⟩ => h x w hx
theorem KD3 : KD 3 ≤ 10000 := by decide
theorem l5Any_calls {w0 w : World} {F0 F : Fz} {br : Nat} {bv : Value} {p : Int} {bs : List UInt8} (h : Hp w0 F0 F [rd br bv p] w) (hr : FRow F bv bs.length 1 (rowB bs)) (hl : bs.length ≤ 2000) (hp : 0 ≤ p ∧ p ≤ 1099511500000) :
    Calls Try.prog 56 #[pt br] w (PA w0 F0 F br bv p 10020 1200) := by
  refine calls 18 Try.func56 rfl rfl rfl ?_
  have h0F := h.ext
  have hK3 := KD3
  have hB3 := BD_small 3 (by omega)
  refine W.seq (W.region rfl ?_)
  refine WL.alloc h T42 (fun b2 w h => ?_)
  refine WL.nil ?_
  refine W.seq (W.region rfl ?_)
  refine WL.p h Val.mv ?_
  refine WL.call C57 (args := [pt br, .int .i64 24]) rfl ((pickL h 0 rfl hr hl (by omega) 24 (by omega)).mono ?_)
  rintro e w' ⟨r, rfl, h, hr1, hr2⟩
  refine ⟨_, rfl, ?_⟩
  refine WL.p h Val.as ?_
  refine WL.nil ?_
  refine W.seq (W.seq (W.region rfl ?_))
  refine WL.p h Val.mv ?_
  refine WL.p h (Val.eq (a := r) (b := 0) rfl rfl) ?_
  refine WL.dec (fun c0 => ?_) (fun c0 => ?_)
  · refine WL.nil ?_
    refine W.condT rfl ?_
    refine W.seq (W.region rfl ?_)
    refine WL.p h Val.mv ?_
    refine WL.call C80 (args := [pt br]) rfl ((liftA h 0 rfl (fun F1 hs h => (l5Edge_calls h (hr.mono hs) hl (by omega)).mono (fun e w hp => hp.toPA (C' := 2000) (B' := 1100) (by omega) (by omega)))).mono ?_)
    rintro e w' ⟨s, es, c, p2, rfl, h, hh, h1, h2, h3⟩
    refine ⟨_, rfl, ?_⟩
    refine WL.stS 1 h rfl T42 rfl (vs := [s]) rfl (one1 (hh.one (h.holds 2 _ rfl))) rfl rfl (fun w h => ?_)
    refine WL.nil ?_
    refine W.ret ?_
    exact finBox h 1 rfl rfl rfl A42 T42 rfl (PA.mk' h h0F (Sub.refl _) 0 2 (by decide) rfl rfl hh (by omega) (by omega) (by omega))
  refine WL.nil ?_
  refine W.condF rfl ?_
  refine W.skip ?_
  refine W.seq (W.seq (W.region rfl ?_))
  refine WL.p h Val.mv ?_
  refine WL.p h (Val.eq (a := r) (b := 1) rfl rfl) ?_
  refine WL.dec (fun c1 => ?_) (fun c1 => ?_)
  · refine WL.nil ?_
    refine W.condT rfl ?_
    refine W.seq (W.region rfl ?_)
    refine WL.p h Val.mv ?_
    refine WL.p h Val.mv ?_
    refine WL.call C82 (args := [pt br, .int .i64 ((3 : Nat) : Int)]) rfl ((liftR (C := KD 3) (B := BD 3) h 0 rfl (fun F1 hs h => l5Draw_calls 3 (by omega) h (hr.mono hs) hl (by omega))).mono ?_)
    rintro e w' ⟨F2, s, es, p2, rfl, hs2, h, hrow, hp21, hp22, he1, he2⟩
    refine ⟨_, rfl, ?_⟩
    refine WL.call C81 (args := [pt br, .agg #[s]]) rfl ((liftA h 0 rfl (fun F1 hs h => l5Spoil_calls h ((hr.mono hs2).mono hs) hl (by omega) s es (hrow.mono hs) he1 (by omega))).mono ?_)
    rintro e w' ⟨s', es', c, p3, rfl, h, hh, h1, h2, h3⟩
    refine ⟨_, rfl, ?_⟩
    refine WL.stS 1 h rfl T42 rfl (vs := [s']) rfl (one1 (hh.one (h.holds 2 _ rfl))) rfl rfl (fun w h => ?_)
    refine WL.nil ?_
    refine W.ret ?_
    exact finBox h 1 rfl rfl rfl A42 T42 rfl (PA.mk' h h0F hs2 0 2 (by decide) rfl rfl hh (by omega) (by omega) (by omega))
  refine WL.nil ?_
  refine W.condF rfl ?_
  refine W.skip ?_
  refine W.seq (W.region rfl ?_)
  refine WL.p h Val.mv ?_
  refine WL.call C82 (args := [pt br, .int .i64 ((3 : Nat) : Int)]) rfl ((liftA h 0 rfl (fun F1 hs h => (l5Draw_calls 3 (by omega) h (hr.mono hs) hl (by omega)).mono (fun e w hp => hp.toPA (C' := KD 3) (B' := BD 3) (by omega) (by omega)))).mono ?_)
  rintro e w' ⟨s, es, c, p2, rfl, h, hh, h1, h2, h3⟩
  refine ⟨_, rfl, ?_⟩
  refine WL.stS 1 h rfl T42 rfl (vs := [s]) rfl (one1 (hh.one (h.holds 2 _ rfl))) rfl rfl (fun w h => ?_)
  refine WL.nil ?_
  refine W.ret ?_
  exact finBox h 1 rfl rfl rfl A42 T42 rfl (PA.mk' h h0F (Sub.refl _) 0 2 (by decide) rfl rfl hh (by omega) (by omega) (by omega))
/-- A value drawn beside other chunks; it is fixed. -/
theorem l5AnyF {w0 w : World} {F0 F : Fz} {L : List Ch} {br : Nat} {bv : Value} {p : Int} {bs : List UInt8} (h : Hp w0 F0 F L w) (i : Nat) (hi : L[i]? = some (rd br bv p)) (hr : FRow F bv bs.length 1 (rowB bs)) (hl : bs.length ≤ 2000) (hp : 0 ≤ p ∧ p ≤ 1099511500000) :
    Calls Try.prog 56 #[pt br] w fun e w' => ∃ F' s es p', e = .returned (.agg #[s]) ∧ Sub F F' ∧ Hp w0 F0 F' (L.set i (rd br bv p')) w' ∧ FRow F' s es.length 4 (rowA es) ∧ p ≤ p' ∧ p' ≤ p + 10020 ∧ es.length ≤ 1200 := by
  refine (liftA h i hi (fun F1 hs h => l5Any_calls h (hr.mono hs) hl hp)).mono ?_
  rintro e w' ⟨s, es, c, p2, rfl, h, hh, h1, h2, h3⟩
  obtain ⟨F', hs, h, hrow⟩ := h.freezeLast hh
  exact ⟨F', s, es, p2, rfl, hs, h, hrow, h1, h2, h3⟩
theorem fin2CC {P : Program} {n : Nat} {fn : Func} {K : Ending → World → Prop} {R : Regs} {w0 w : World} {F0 F : Fz} {L : List Ch} (h : Hp w0 F0 F L w) (i j : Nat) {t u T b c : Nat} {cs ds : List Value} {z : Value} {size bytes : Nat} (hr : fn.results = #[.cell t T, .cell u T]) (hp : R t = .pointer (some ⟨b, 0, none⟩)) (hq : R u = .pointer (some ⟨c, 0, none⟩)) (hi : L[i]? = some (.box b cs T)) (hj : L[j]? = some (.box c ds T)) (hA : AG P T true) (hT : TI P T z size bytes) (hl : cs.length = size) (hm : ds.length = size) (k : K (.returned (.tuple #[.agg cs.toArray, .agg ds.toArray])) w) : fin P n fn K .ret R w := by
  have h1 := run_loadN (P := P) (w := w) (a := ⟨b, 0, none⟩) hA hT hl (fun j v hj => by rw [add_plain, Nat.zero_add]; exact box_cell h hi hj)
  have h2 := run_loadN (P := P) (w := w) (a := ⟨c, 0, none⟩) hA hT hm (fun j' v hj' => by rw [add_plain, Nat.zero_add]; exact box_cell h hj hj')
  unfold fin
  exact ⟨_, fun a ha => by simp [results, hr, ha.get, hp, hq, asAddr, h1, h2], k⟩
def PDO (F : Fz) (w0 : World) (e : Ending) (w : World) : Prop := ∃ F' sa sb ea eb, e = .returned (.tuple #[.agg #[sa], .agg #[sb]]) ∧ Ext F w0 F' w ∧ FRow F' sa ea.length 4 (rowA ea) ∧ FRow F' sb eb.length 4 (rowA eb) ∧ ea.length ≤ 1200 ∧ eb.length ≤ 1200
def doI (w0 : World) (F F1 : Fz) (br b2 b3 b5 b6 : Nat) (bv sa : Value) (i : Nat) (R : Regs) (w : World) : Prop :=
  ∃ (F' : Fz) (sb : Value) (eb : List At) (p : Int), Sub F1 F' ∧ Hp w0 F F' [.box b2 [.slice none 0 0] 42, .box b3 [.slice none 0 0] 42, rd br bv p, .box b5 [sa] 42, .box b6 [sb] 42] w ∧ FRow F' sb eb.length 4 (rowA eb) ∧ eb.length ≤ 1200 ∧ 0 ≤ p ∧ p ≤ 100000 + 20000 * (i : Int) ∧ R 2 = pt b2 ∧ R 3 = pt b3 ∧ R 4 = pt br ∧ R 5 = pt b5 ∧ R 6 = pt b6 ∧ R 7 = .int .i64 (i : Int)
set_option maxHeartbeats 4000000 in
theorem DrawOrder_calls (F : Fz) (w0 : World) (hF : Sub F (hv w0)) (v : Value) (bs : List UInt8) (hr : FRow F v bs.length 1 (rowB bs)) : Calls Try.prog 26 #[v] w0 (PDO F w0) := by
  refine calls 51 Try.func26 rfl rfl rfl ?_
  have h := Hp.start hF
  refine W.seq (W.region rfl ?_)
  refine WL.alloc h T42 (fun b2 w h => ?_)
  refine WL.alloc h T42 (fun b3 w h => ?_)
  refine WL.nil ?_
  refine W.seq (W.region rfl ?_)
  refine WL.p h Val.mv ?_
  refine WL.call C55 (args := [v]) rfl ((l1Open_calls F w h.sub v bs hr).mono ?_)
  rintro e w' ⟨br, bv, bs', rfl, hp, hrb, hl⟩
  have h := h.take1 hp
  refine ⟨_, rfl, ?_⟩
  refine WL.p h Val.as ?_
  refine WL.nil ?_
  refine W.seq (W.region rfl ?_)
  refine WL.p h Val.mv ?_
  refine WL.call C56 (args := [pt br]) rfl ((l5AnyF h 2 rfl hrb hl (by omega)).mono ?_)
  rintro e w' ⟨F1, sa, ea, p1, rfl, hs1, h, hra, hp11, hp12, hla⟩
  refine ⟨_, rfl, ?_⟩
  refine WL.alloc h T42 (fun b5 w h => ?_)
  refine WL.stS 3 h rfl T42 rfl (vs := [sa]) rfl (one1 hra.one) rfl rfl (fun w h => ?_)
  refine WL.nil ?_
  refine W.seq (W.region rfl ?_)
  refine WL.p h Val.mv ?_
  refine WL.call C56 (args := [pt br]) rfl ((l5AnyF h 2 rfl (hrb.mono hs1) hl (by omega)).mono ?_)
  rintro e w' ⟨F2, sb, eb, p2, rfl, hs2, h, hrb2, hp21, hp22, hlb⟩
  refine ⟨_, rfl, ?_⟩
  refine WL.alloc h T42 (fun b6 w h => ?_)
  refine WL.stS 4 h rfl T42 rfl (vs := [sb]) rfl (one1 hrb2.one) rfl rfl (fun w h => ?_)
  refine WL.nil ?_
  refine W.seq (W.seq (W.region rfl ?_))
  refine WL.p h Val.as ?_
  refine WL.nil ?_
  refine W.block ?_
  refine W.loop (fun m R w => ∃ i, m + i = 5 ∧ i ≤ 4 ∧ doI w0 F F1 br b2 b3 b5 b6 bv sa i R w) 5 ?_ (fun m R w hI => ?_)
  · exact ⟨0, by omega, by omega, F2, sb, eb, p2, hs2, h, hrb2, hlb, by omega, by omega, rfl, rfl, rfl, rfl, rfl, rfl⟩
  clear h
  obtain ⟨i, hm, hi4, F', sb, eb, p, hs1', h, hrb2, hlb, hp1, hp2, h2, h3, h4, h5, h6, h7⟩ := hI
  have hra := hra.mono hs1'
  have hs1 := hs1.trans hs1'
  refine W.seq ?_
  refine W.seq ?_
  refine W.cutT (fun R w => ∃ (t : Bool) (p' : Int), Hp w0 F F' [.box b2 [.slice none 0 0] 42, .box b3 [.slice none 0 0] 42, rd br bv p', .box b5 [sa] 42, .box b6 [sb] 42] w ∧ p ≤ p' ∧ p' ≤ p + 1 ∧ R 2 = pt b2 ∧ R 3 = pt b3 ∧ R 4 = pt br ∧ R 5 = pt b5 ∧ R 6 = pt b6 ∧ R 7 = .int .i64 (i : Int) ∧ R 39 = .bool (t && decide ((i : Int) < 4))) ?_ ?_
  · refine W.draw (fun w => Hp w0 F F' [.box b2 [.slice none 0 0] 42, .box b3 [.slice none 0 0] 42, rd br bv p, .box b5 [sa] 42, .box b6 [sb] 42] w) [23, 24, 25] 26 (by kernel_rfl) rfl rfl ?_
    have hS := h.drewN 1
    refine WD.take 0 rfl (by kernel_rfl) (fun _ _ _ h => fin_panic h) hS Val.mv ?_
    refine WD.take 1 rfl (by kernel_rfl) (fun _ _ _ h => fin_panic h) hS (Val.lt h7 rfl) ?_
    refine WD.dec (fun cA => ?_) (fun cA => ?_)
    · refine WD.take 2 rfl (by kernel_rfl) (fun _ _ _ h => fin_panic h) hS Val.mv ?_
      refine WD.take 3 rfl (by kernel_rfl) (fun _ _ _ h => fin_panic h) hS (Val.fa O42_0 h5) ?_
      refine WD.take 4 rfl (by kernel_rfl) (fun _ _ _ h => fin_panic h) hS (Val.ld 3 A40 rfl rfl rfl) ?_
      refine WD.take 5 rfl (by kernel_rfl) (fun _ _ _ h => fin_panic h) hS (Val.len Try.underlying40 rfl hra.val) ?_
      refine WD.take 6 rfl (by kernel_rfl) (fun _ _ _ h => fin_panic h) hS (Val.gt (a := (ea.length : Int)) (b := 0) rfl rfl) ?_
      refine WD.dec (fun cB => ?_) (fun cB => ?_)
      · refine WD.take 7 rfl (by kernel_rfl) (fun _ _ _ h => fin_panic h) hS (Val.pick rfl) ?_
        refine WD.take 8 rfl (by kernel_rfl) (fun _ _ _ h => fin_panic h) hS Val.mv ?_
        refine WD.take 9 rfl (by kernel_rfl) (fun _ _ _ h => fin_panic h) hS (Val.fa O42_0 h6) ?_
        refine WD.take 10 rfl (by kernel_rfl) (fun _ _ _ h => fin_panic h) hS (Val.ld 4 A40 rfl rfl rfl) ?_
        refine WD.take 11 rfl (by kernel_rfl) (fun _ _ _ h => fin_panic h) hS (Val.len Try.underlying40 rfl hrb2.val) ?_
        refine WD.take 12 rfl (by kernel_rfl) (fun _ _ _ h => fin_panic h) hS (Val.gt (a := (eb.length : Int)) (b := 0) rfl rfl) ?_
        refine WD.dec (fun cC => ?_) (fun cC => ?_)
        · refine WD.take 13 rfl (by kernel_rfl) (fun _ _ _ h => fin_panic h) hS (Val.pick rfl) ?_
          refine WD.take 14 rfl (by kernel_rfl) (fun _ _ _ h => fin_panic h) hS Val.mv ?_
          refine WD.take 15 rfl (by kernel_rfl) (fun _ _ _ h => fin_panic h) hS (Val.ldS 3 A42 T42 rfl h5 rfl) ?_
          refine WD.take 17 rfl (by kernel_rfl) (fun _ _ _ h => fin_panic h) hS (Val.ldS 4 A42 T42 rfl h6 rfl) ?_
          obtain ⟨xa, hxa⟩ : ∃ a, ea[ea.length - 1]? = some a := ⟨_, List.getElem?_eq_getElem (by omega)⟩
          obtain ⟨xb, hxb⟩ : ∃ a, eb[eb.length - 1]? = some a := ⟨_, List.getElem?_eq_getElem (by omega)⟩
          refine WD.one 16 rfl (by kernel_rfl) ?_
          refine WL.call C46 (args := [.agg #[sa]]) rfl ((l6Kind_calls F' _ hS.sub sa ea hra xa hxa).mono ?_)
          rintro e w' ⟨rfl, hE⟩
          have hS := hS.call hE
          refine ⟨_, rfl, ?_⟩
          refine WL.nil ?_
          refine ⟨hS, ?_⟩
          refine WD.one 18 rfl (by kernel_rfl) ?_
          refine WL.call C46 (args := [.agg #[sb]]) rfl ((l6Kind_calls F' _ hS.sub sb eb hrb2 xb hxb).mono ?_)
          rintro e w' ⟨rfl, hE⟩
          have hS := hS.call hE
          refine ⟨_, rfl, ?_⟩
          refine WL.nil ?_
          refine ⟨hS, ?_⟩
          refine WD.take 19 rfl (by kernel_rfl) (fun _ _ _ h => fin_panic h) hS (Val.ne (a := xa.k) (b := xb.k) rfl rfl) ?_
          refine WD.dec (fun cD => ?_) (fun cD => ?_)
          · refine WD.take 20 rfl (by kernel_rfl) (fun _ _ _ h => fin_panic h) hS (Val.pick rfl) ?_
            refine WD.take 21 rfl (by kernel_rfl) (fun _ _ _ h => fin_panic h) hS Val.mv ?_
            refine WD.take 22 rfl (by kernel_rfl) (fun _ _ _ h => fin_panic h) hS Val.mv ?_
            refine WD.last 23 rfl (by kernel_rfl) rfl ?_
            refine WL.call C57 (args := [pt br, .int .i64 4]) (congrArg (fun x => [x, Value.int .i64 4]) h4) ((pickL hS 2 rfl (hrb.mono hs1) hl (by omega) 4 (by omega)).mono ?_)
            rintro e w' ⟨x, rfl, h, hx1, hx2⟩
            refine ⟨_, rfl, ?_⟩
            refine WL.nil ?_
            refine WD.last 24 rfl (by kernel_rfl) rfl ?_
            refine WL.p h (Val.gt (a := x) (b := 0) rfl rfl) ?_
            refine WL.nil ?_
            refine WD.last 25 rfl (by kernel_rfl) rfl ?_
            refine WL.p h (Val.pick rfl) ?_
            refine WL.nil ?_
            refine WD.nil (by kernel_rfl) ?_
            exact ⟨decide (0 < x), _, h, by omega, by omega, h2, h3, h4, h5, h6, h7, by show Value.bool (decide (0 < x)) = _; simp [cA]⟩
          · refine WD.take 20 rfl (by kernel_rfl) (fun _ _ _ h => fin_panic h) hS (Val.pick rfl) ?_
            refine WD.take 21 rfl (by kernel_rfl) (fun _ _ _ h => fin_panic h) hS Val.mv ?_
            refine WD.skip 22 rfl (by kernel_rfl) (fun _ _ _ h => fin_panic h) hS rfl ?_
            refine WD.last 23 rfl (by kernel_rfl) rfl ?_
            refine WL.no rfl (?_)
            refine WL.nil ?_
            refine WD.last 24 rfl (by kernel_rfl) rfl ?_
            refine WL.no rfl (?_)
            refine WL.nil ?_
            refine WD.last 25 rfl (by kernel_rfl) rfl ?_
            refine WL.p hS (Val.pick rfl) ?_
            refine WL.nil ?_
            refine WD.nil (by kernel_rfl) ?_
            exact ⟨false, _, hS, by omega, by omega, h2, h3, h4, h5, h6, h7, rfl⟩
        · refine WD.take 13 rfl (by kernel_rfl) (fun _ _ _ h => fin_panic h) hS (Val.pick rfl) ?_
          refine WD.take 14 rfl (by kernel_rfl) (fun _ _ _ h => fin_panic h) hS Val.mv ?_
          refine WD.skip 15 rfl (by kernel_rfl) (fun _ _ _ h => fin_panic h) hS rfl ?_
          refine WD.skip 17 rfl (by kernel_rfl) (fun _ _ _ h => fin_panic h) hS rfl ?_
          refine WD.skip 16 rfl (by kernel_rfl) (fun _ _ _ h => fin_panic h) hS rfl ?_
          refine WD.skip 18 rfl (by kernel_rfl) (fun _ _ _ h => fin_panic h) hS rfl ?_
          refine WD.skip 19 rfl (by kernel_rfl) (fun _ _ _ h => fin_panic h) hS rfl ?_
          refine WD.take 20 rfl (by kernel_rfl) (fun _ _ _ h => fin_panic h) hS (Val.pick rfl) ?_
          refine WD.take 21 rfl (by kernel_rfl) (fun _ _ _ h => fin_panic h) hS Val.mv ?_
          refine WD.skip 22 rfl (by kernel_rfl) (fun _ _ _ h => fin_panic h) hS rfl ?_
          refine WD.last 23 rfl (by kernel_rfl) rfl ?_
          refine WL.no rfl (?_)
          refine WL.nil ?_
          refine WD.last 24 rfl (by kernel_rfl) rfl ?_
          refine WL.no rfl (?_)
          refine WL.nil ?_
          refine WD.last 25 rfl (by kernel_rfl) rfl ?_
          refine WL.p hS (Val.pick rfl) ?_
          refine WL.nil ?_
          refine WD.nil (by kernel_rfl) ?_
          exact ⟨false, _, hS, by omega, by omega, h2, h3, h4, h5, h6, h7, rfl⟩
      · refine WD.take 7 rfl (by kernel_rfl) (fun _ _ _ h => fin_panic h) hS (Val.pick rfl) ?_
        refine WD.take 8 rfl (by kernel_rfl) (fun _ _ _ h => fin_panic h) hS Val.mv ?_
        refine WD.skip 9 rfl (by kernel_rfl) (fun _ _ _ h => fin_panic h) hS rfl ?_
        refine WD.skip 10 rfl (by kernel_rfl) (fun _ _ _ h => fin_panic h) hS rfl ?_
        refine WD.skip 11 rfl (by kernel_rfl) (fun _ _ _ h => fin_panic h) hS rfl ?_
        refine WD.skip 12 rfl (by kernel_rfl) (fun _ _ _ h => fin_panic h) hS rfl ?_
        refine WD.take 13 rfl (by kernel_rfl) (fun _ _ _ h => fin_panic h) hS (Val.pick rfl) ?_
        refine WD.take 14 rfl (by kernel_rfl) (fun _ _ _ h => fin_panic h) hS Val.mv ?_
        refine WD.skip 15 rfl (by kernel_rfl) (fun _ _ _ h => fin_panic h) hS rfl ?_
        refine WD.skip 17 rfl (by kernel_rfl) (fun _ _ _ h => fin_panic h) hS rfl ?_
        refine WD.skip 16 rfl (by kernel_rfl) (fun _ _ _ h => fin_panic h) hS rfl ?_
        refine WD.skip 18 rfl (by kernel_rfl) (fun _ _ _ h => fin_panic h) hS rfl ?_
        refine WD.skip 19 rfl (by kernel_rfl) (fun _ _ _ h => fin_panic h) hS rfl ?_
        refine WD.take 20 rfl (by kernel_rfl) (fun _ _ _ h => fin_panic h) hS (Val.pick rfl) ?_
        refine WD.take 21 rfl (by kernel_rfl) (fun _ _ _ h => fin_panic h) hS Val.mv ?_
        refine WD.skip 22 rfl (by kernel_rfl) (fun _ _ _ h => fin_panic h) hS rfl ?_
        refine WD.last 23 rfl (by kernel_rfl) rfl ?_
        refine WL.no rfl (?_)
        refine WL.nil ?_
        refine WD.last 24 rfl (by kernel_rfl) rfl ?_
        refine WL.no rfl (?_)
        refine WL.nil ?_
        refine WD.last 25 rfl (by kernel_rfl) rfl ?_
        refine WL.p hS (Val.pick rfl) ?_
        refine WL.nil ?_
        refine WD.nil (by kernel_rfl) ?_
        exact ⟨false, _, hS, by omega, by omega, h2, h3, h4, h5, h6, h7, rfl⟩
    · refine WD.take 2 rfl (by kernel_rfl) (fun _ _ _ h => fin_panic h) hS Val.mv ?_
      refine WD.skip 3 rfl (by kernel_rfl) (fun _ _ _ h => fin_panic h) hS rfl ?_
      refine WD.skip 4 rfl (by kernel_rfl) (fun _ _ _ h => fin_panic h) hS rfl ?_
      refine WD.skip 5 rfl (by kernel_rfl) (fun _ _ _ h => fin_panic h) hS rfl ?_
      refine WD.skip 6 rfl (by kernel_rfl) (fun _ _ _ h => fin_panic h) hS rfl ?_
      refine WD.take 7 rfl (by kernel_rfl) (fun _ _ _ h => fin_panic h) hS (Val.pick rfl) ?_
      refine WD.take 8 rfl (by kernel_rfl) (fun _ _ _ h => fin_panic h) hS Val.mv ?_
      refine WD.skip 9 rfl (by kernel_rfl) (fun _ _ _ h => fin_panic h) hS rfl ?_
      refine WD.skip 10 rfl (by kernel_rfl) (fun _ _ _ h => fin_panic h) hS rfl ?_
      refine WD.skip 11 rfl (by kernel_rfl) (fun _ _ _ h => fin_panic h) hS rfl ?_
      refine WD.skip 12 rfl (by kernel_rfl) (fun _ _ _ h => fin_panic h) hS rfl ?_
      refine WD.take 13 rfl (by kernel_rfl) (fun _ _ _ h => fin_panic h) hS (Val.pick rfl) ?_
      refine WD.take 14 rfl (by kernel_rfl) (fun _ _ _ h => fin_panic h) hS Val.mv ?_
      refine WD.skip 15 rfl (by kernel_rfl) (fun _ _ _ h => fin_panic h) hS rfl ?_
      refine WD.skip 17 rfl (by kernel_rfl) (fun _ _ _ h => fin_panic h) hS rfl ?_
      refine WD.skip 16 rfl (by kernel_rfl) (fun _ _ _ h => fin_panic h) hS rfl ?_
      refine WD.skip 18 rfl (by kernel_rfl) (fun _ _ _ h => fin_panic h) hS rfl ?_
      refine WD.skip 19 rfl (by kernel_rfl) (fun _ _ _ h => fin_panic h) hS rfl ?_
      refine WD.take 20 rfl (by kernel_rfl) (fun _ _ _ h => fin_panic h) hS (Val.pick rfl) ?_
      refine WD.take 21 rfl (by kernel_rfl) (fun _ _ _ h => fin_panic h) hS Val.mv ?_
      refine WD.skip 22 rfl (by kernel_rfl) (fun _ _ _ h => fin_panic h) hS rfl ?_
      refine WD.last 23 rfl (by kernel_rfl) rfl ?_
      refine WL.no rfl (?_)
      refine WL.nil ?_
      refine WD.last 24 rfl (by kernel_rfl) rfl ?_
      refine WL.no rfl (?_)
      refine WL.nil ?_
      refine WD.last 25 rfl (by kernel_rfl) rfl ?_
      refine WL.p hS (Val.pick rfl) ?_
      refine WL.nil ?_
      refine WD.nil (by kernel_rfl) ?_
      exact ⟨false, _, hS, by omega, by omega, h2, h3, h4, h5, h6, h7, rfl⟩
  clear h h2 h3 h4 h5 h6 h7
  rintro R w ⟨t, p', h, hp3, hp4, h2, h3, h4, h5, h6, h7, h39⟩
  by_cases hc : (t && decide ((i : Int) < 4)) = true
  · have hi : (i : Int) < 4 := by simp at hc; omega
    rw [hc] at h39
    refine W.condT h39 ?_
    refine W.skip ?_
    refine W.seq (W.block ?_)
    refine W.region rfl ?_
    refine WL.p h Val.mv ?_
    refine WL.call C56 (args := [pt br]) (congrArg (fun x => [x]) h4) ((l5AnyF h 2 rfl (hrb.mono hs1) hl (by omega)).mono ?_)
    rintro e w' ⟨F2, sb', eb', p2, rfl, hs2, h, hrb2', hp21, hp22, hlb'⟩
    refine ⟨_, rfl, ?_⟩
    refine WL.stS 4 h rfl T42 h6 (vs := [sb']) rfl (one1 hrb2'.one) rfl rfl (fun w h => ?_)
    refine WL.nil ?_
    refine W.region rfl ?_
    refine WL.p h Val.mv ?_
    refine WL.p h (Val.addi (c := ((i + 1 : Nat) : Int)) h7 rfl (by omega)) ?_
    refine WL.p h Val.as ?_
    refine WL.nil ?_
    exact ⟨m - 1, by omega, i + 1, by omega, by omega, F2, sb', eb', p2, hs1'.trans hs2, h, hrb2', hlb', by omega, by omega, h2, h3, h4, h5, h6, rfl⟩
  · have hc' : (t && decide ((i : Int) < 4)) = false := by simpa using hc
    rw [hc'] at h39
    refine W.condF h39 ?_
    refine W.exit ?_
    refine W.seq (W.seq (W.region rfl ?_))
    refine WL.p h Val.mv ?_
    refine WL.call C57 (args := [pt br, .int .i64 8]) (congrArg (fun x => [x, Value.int .i64 8]) h4) ((pickL h 2 rfl (hrb.mono hs1) hl (by omega) 8 (by omega)).mono ?_)
    rintro e w' ⟨x, rfl, h, hx1, hx2⟩
    refine ⟨_, rfl, ?_⟩
    refine WL.p h (Val.eq (a := x) (b := 0) rfl rfl) ?_
    refine WL.dec (fun c0 => ?_) (fun c0 => ?_)
    · refine WL.nil ?_
      refine W.condT rfl ?_
      refine W.seq (W.draw (fun w => ∃ x, Hp w0 F F' [.box b2 [x] 42, .box b3 [.slice none 0 0] 42, rd br bv (p' + 1), .box b5 [sa] 42, .box b6 [sb] 42] w) [3] 4 (by kernel_rfl) rfl rfl ?_)
      have h := h.drewN 1
      have hS : ∃ x, Hp w0 F F' [.box b2 [x] 42, .box b3 [.slice none 0 0] 42, rd br bv (p' + 1), .box b5 [sa] 42, .box b6 [sb] 42] _ := ⟨_, h⟩
      refine WD.take 0 rfl (by kernel_rfl) (fun _ _ _ h => fin_panic h) hS (Val.ex fun x => Val.ldS 3 A42 T42 rfl h5 rfl) ?_
      refine WD.take 1 rfl (by kernel_rfl) (fun _ _ _ h => fin_panic h) hS (Val.ex fun x => Val.ldS 3 A42 T42 rfl h5 rfl) ?_
      refine WD.one 2 rfl (by kernel_rfl) ?_
      refine WL.stS 0 h rfl T42 h2 (vs := [sa]) rfl (one1 hra.one) rfl rfl (fun w h => ?_)
      refine WL.nil ?_
      refine ⟨⟨_, h⟩, ?_⟩
      refine WD.last 3 rfl (by kernel_rfl) rfl ?_
      refine WL.stS 1 h rfl T42 h3 (vs := [sa]) rfl (one1 hra.one) rfl rfl (fun w h => ?_)
      refine WL.nil ?_
      refine WD.nil (by kernel_rfl) ?_
      refine W.ret ?_
      exact fin2CC h 0 1 rfl h2 h3 rfl rfl A42 T42 rfl rfl ⟨F', sa, sa, ea, ea, rfl, h.toExt, hra, hra, hla, hla⟩
    refine WL.nil ?_
    refine W.condF rfl ?_
    refine W.skip ?_
    refine W.seq (W.draw (fun w => ∃ x, Hp w0 F F' [.box b2 [x] 42, .box b3 [.slice none 0 0] 42, rd br bv (p' + 1), .box b5 [sa] 42, .box b6 [sb] 42] w) [3] 4 (by kernel_rfl) rfl rfl ?_)
    have h := h.drewN 1
    have hS : ∃ x, Hp w0 F F' [.box b2 [x] 42, .box b3 [.slice none 0 0] 42, rd br bv (p' + 1), .box b5 [sa] 42, .box b6 [sb] 42] _ := ⟨_, h⟩
    refine WD.take 0 rfl (by kernel_rfl) (fun _ _ _ h => fin_panic h) hS (Val.ex fun x => Val.ldS 3 A42 T42 rfl h5 rfl) ?_
    refine WD.take 1 rfl (by kernel_rfl) (fun _ _ _ h => fin_panic h) hS (Val.ex fun x => Val.ldS 4 A42 T42 rfl h6 rfl) ?_
    refine WD.one 2 rfl (by kernel_rfl) ?_
    refine WL.stS 0 h rfl T42 h2 (vs := [sa]) rfl (one1 hra.one) rfl rfl (fun w h => ?_)
    refine WL.nil ?_
    refine ⟨⟨_, h⟩, ?_⟩
    refine WD.last 3 rfl (by kernel_rfl) rfl ?_
    refine WL.stS 1 h rfl T42 h3 (vs := [sb]) rfl (one1 hrb2.one) rfl rfl (fun w h => ?_)
    refine WL.nil ?_
    refine WD.nil (by kernel_rfl) ?_
    refine W.ret ?_
    exact fin2CC h 0 1 rfl h2 h3 rfl rfl A42 T42 rfl rfl ⟨F', sa, sb, ea, eb, rfl, h.toExt, hra, hrb2, hla, hlb⟩
end Go.Proofs.Ytmiihhbgfijcmaa.K

