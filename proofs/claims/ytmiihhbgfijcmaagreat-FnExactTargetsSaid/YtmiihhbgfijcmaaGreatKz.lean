/- Types of the plan's dump. -/
import Derived.Test.YtmiihhbgfijcmaaGreatZe
namespace Go.Proofs.YtmiihhbgfijcmaaGreat.K
open Go Go.RowKit
set_option linter.unusedVariables false
set_option linter.unusedSimpArgs false
theorem T26z : TI Tryz.prog 26 (.agg #[.int .i64 0, .int .i64 0, .slice none 0 0]) 3 40 := TI.of (by kernel_rfl)
theorem A26z : AG Tryz.prog 26 true := AG.struct Tryz.underlying26
theorem T47z : TI Tryz.prog 47 (.agg #[.string ⟨#[]⟩, .slice none 0 0]) 2 40 := TI.of (by kernel_rfl)
theorem A47z : AG Tryz.prog 47 true := AG.struct Tryz.underlying47
theorem T49z : TI Tryz.prog 49 (.agg #[.string ⟨#[]⟩, .string ⟨#[]⟩, .string ⟨#[]⟩, .slice none 0 0, .slice none 0 0]) 5 96 := TI.of (by kernel_rfl)
theorem A49z : AG Tryz.prog 49 true := AG.struct Tryz.underlying49
theorem T24z : TI Tryz.prog 24 (.slice none 0 0) 1 24 := TI.of (by kernel_rfl)
theorem A24z : AG Tryz.prog 24 false := AG.no Tryz.underlying24 (by simp) (by simp)
theorem T56z : TI Tryz.prog 56 (.map none) 1 8 := TI.of (by kernel_rfl)
theorem A56z : AG Tryz.prog 56 false := AG.no Tryz.underlying56 (by simp) (by simp)
theorem O47_0z : FO Tryz.prog 47 0 0 := FO.of Tryz.underlying47 rfl rfl rfl T9 (Nat.succ_ne_zero _)
theorem O47_1z : FO Tryz.prog 47 1 1 := FO.of Tryz.underlying47 rfl rfl rfl T42 (Nat.succ_ne_zero _)
theorem O49_0z : FO Tryz.prog 49 0 0 := FO.of Tryz.underlying49 rfl rfl rfl T9 (Nat.succ_ne_zero _)
theorem O49_1z : FO Tryz.prog 49 1 1 := FO.of Tryz.underlying49 rfl rfl rfl T9 (Nat.succ_ne_zero _)
theorem O49_2z : FO Tryz.prog 49 2 2 := FO.of Tryz.underlying49 rfl rfl rfl T9 (Nat.succ_ne_zero _)
theorem O49_3z : FO Tryz.prog 49 3 3 := FO.of Tryz.underlying49 rfl rfl rfl T24 (Nat.succ_ne_zero _)
theorem O49_4z : FO Tryz.prog 49 4 4 := FO.of Tryz.underlying49 rfl rfl rfl T24 (Nat.succ_ne_zero _)
theorem O26_0z : FO Tryz.prog 26 0 0 := FO.of Tryz.underlying26 rfl rfl rfl T3 (Nat.succ_ne_zero _)
theorem O26_1z : FO Tryz.prog 26 1 1 := FO.of Tryz.underlying26 rfl rfl rfl T3 (Nat.succ_ne_zero _)
theorem O26_2z : FO Tryz.prog 26 2 2 := FO.of Tryz.underlying26 rfl rfl rfl T24z (Nat.succ_ne_zero _)
theorem B49e : Tryz.prog.built 49 [] = some #[.string ⟨#[]⟩, .string ⟨#[]⟩, .string ⟨#[]⟩, .slice none 0 0, .slice none 0 0] := by kernel_rfl
theorem B26e : Tryz.prog.built 26 [] = some #[.int .i64 0, .int .i64 0, .slice none 0 0] := by kernel_rfl
theorem B26c (c i : Int) : Tryz.prog.built 26 [(0, .int .i64 c), (1, .int .i64 i)] = some #[.int .i64 c, .int .i64 i, .slice none 0 0] := by kernel_rfl
theorem B26s (A : Option Addr) (n c : Nat) : Tryz.prog.built 26 [(2, .slice A n c)] = some #[.int .i64 0, .int .i64 0, .slice A n c] := by kernel_rfl
section
variable {P : Program} {R : Regs} {w0 : World} {F0 F : Fz} {L : List Ch} {d : Option Nat} {ty : TypeId} {pos : String} {af : Array Edge} {g : Option (Nat × Bool)}
variable {n : Nat} {ops : Array Oper} {Q : Post} {w : World} {rest : List Oper}
theorem WL.bs5 {T e bytes : Nat} {z u1 u2 u3 u4 u5 : Value} {x1 x2 x3 x4 x5 : Operand} (h : Hp w0 F0 F L w) (ht : P.underlying T = some (.slice e)) (hT : TI P e z 1 bytes) (e1 : K.ev R x1 = u1) (e2 : K.ev R x2 = u2) (e3 : K.ev R x3 = u3) (e4 : K.ev R x4 = u4) (e5 : K.ev R x5 = u5) (h1 : u1.oneCell' = true) (h2 : u2.oneCell' = true) (h3 : u3.oneCell' = true) (h4 : u4.oneCell' = true) (h5 : u5.oneCell' = true)
    (k : ∀ b w', Hp w0 F0 F (L ++ [.box b [u1, u2, u3, u4, u5] e]) w' → WL P n ops Q rest (updO R d (.slice (some ⟨b, 0, none⟩) 5 5)) w') (hw : wantB ops R g = true := by rfl) : WL P n ops Q (⟨d, .buildSlice T 5 #[(0, x1), (1, x2), (2, x3), (3, x4), (4, x5)], ty, pos, af, g⟩ :: rest) R w := by
  refine WL.val (v := .slice (some ⟨w.heap.size, 0, none⟩) 5 5) (w' := w.alloc (.cells #[u1, u2, u3, u4, u5] e)) hw ?_ (k _ _ (h.alloc [u1, u2, u3, u4, u5] e))
  have hz : z.cells.size = 1 := hT.zs
  have hr : (Array.range (5 * 1)).map (fun i => z.cells[i % z.cells.size]!) = #[z.cells[0]!, z.cells[0]!, z.cells[0]!, z.cells[0]!, z.cells[0]!] := by
    have : Array.range (5 * 1) = #[0, 1, 2, 3, 4] := rfl
    rw [this]
    simp [hz]
  simp only [execOp, Instr.buildSlice, Sem.run_bind, run_underlying ht, Result.andThen_ok, hT.sizeOf w, hT.zero w, Sem.run_pure, List.map_toArray, List.map_cons, List.map_nil, e1, e2, e3, e4, e5, hr]
  have h24 : ¬ (5 * 1 > 2 ^ 24) := by omega
  have h10 : ¬ (5 * 1 = 0) := by omega
  simp only [if_neg h24, if_neg h10, Sem.run_pure, Sem.run_bind, Result.andThen_ok, hT.zero w, hr]
  simp [Instr.fill, cells1 h1, cells1 h2, cells1 h3, cells1 h4, cells1 h5, newRow]
end
end Go.Proofs.YtmiihhbgfijcmaaGreat.K

