/- The facts on the program's types, as the calculus asks for them. (Lines by a small program of this work.) -/
import Derived.Test.YtmiihhbgfijcmaaGreatProg
import Derived.Test.YtmiihhbgfijcmaaGreatKc
namespace Go.Proofs.YtmiihhbgfijcmaaGreat.K
open Go Go.RowKit
theorem FO.of {P : Program} {s f : Nat} {fs : Array Field} {fld : Field} {z : Value} {size bytes off t : Nat} (h : P.underlying s = some (.struct fs)) (hf : fs[f]? = some fld) (ho : fld.offset = off) (ht : fld.type = t) (hT : TI P t z size bytes) (hs : size ≠ 0) : FO P s f off := fun a w => by
  subst ho; subst ht
  simp [Instr.fieldAt, run_underlying h, hf, Instr.sureAddr, fieldPlace, hT.sizeOf w, hs]
theorem T2 : TI Tryz.prog 2 (.int .i64 0) 1 8 := TI.of (by kernel_rfl)
theorem A2 : AG Tryz.prog 2 false := AG.no Tryz.underlying2 (by simp) (by simp)
theorem N2 : NI Tryz.prog 2 := NI.of Tryz.underlying2
theorem T3 : TI Tryz.prog 3 (.int .i64 0) 1 8 := TI.of (by kernel_rfl)
theorem A3 : AG Tryz.prog 3 false := AG.no Tryz.underlying3 (by simp) (by simp)
theorem N3 : NI Tryz.prog 3 := NI.of Tryz.underlying3
theorem T4 : TI Tryz.prog 4 (.bool false) 1 1 := TI.of (by kernel_rfl)
theorem A4 : AG Tryz.prog 4 false := AG.no Tryz.underlying4 (by simp) (by simp)
theorem N4 : NI Tryz.prog 4 := NI.of Tryz.underlying4
theorem T5 : TI Tryz.prog 5 (.int .u8 0) 1 1 := TI.of (by kernel_rfl)
theorem A5 : AG Tryz.prog 5 false := AG.no Tryz.underlying5 (by simp) (by simp)
theorem N5 : NI Tryz.prog 5 := NI.of Tryz.underlying5
theorem T9 : TI Tryz.prog 9 (.string ⟨#[]⟩) 1 16 := TI.of (by kernel_rfl)
theorem A9 : AG Tryz.prog 9 false := AG.no Tryz.underlying9 (by simp) (by simp)
theorem N9 : NI Tryz.prog 9 := NI.of Tryz.underlying9
theorem T24 : TI Tryz.prog 41 (.slice none 0 0) 1 24 := TI.of (by kernel_rfl)
theorem A24 : AG Tryz.prog 41 false := AG.no Tryz.underlying41 (by simp) (by simp)
theorem N24 : NI Tryz.prog 41 := NI.of Tryz.underlying41
theorem T71 : TI Tryz.prog 57 (.nilIface) 1 16 := TI.of (by kernel_rfl)
theorem A71 : AG Tryz.prog 57 false := AG.no Tryz.underlying57 (by simp) (by simp)
theorem T40 : TI Tryz.prog 43 (.slice none 0 0) 1 24 := TI.of (by kernel_rfl)
theorem A40 : AG Tryz.prog 43 false := AG.no Tryz.underlying43 (by simp) (by simp)
theorem N40 : NI Tryz.prog 43 := NI.of Tryz.underlying43
theorem T79 : TI Tryz.prog 78 (.agg #[(.int .i64 0), (.int .i64 0), (.string ⟨#[]⟩), (.int .i64 0)]) 4 40 := TI.of (by kernel_rfl)
theorem A79 : AG Tryz.prog 78 true := AG.struct Tryz.underlying78
theorem N79 : NI Tryz.prog 78 := NI.of Tryz.underlying78
theorem T42 : TI Tryz.prog 45 (.agg #[(.slice none 0 0)]) 1 24 := TI.of (by kernel_rfl)
theorem A42 : AG Tryz.prog 45 true := AG.struct Tryz.underlying45
theorem N42 : NI Tryz.prog 45 := NI.of Tryz.underlying45
theorem T35 : TI Tryz.prog 36 (.slice none 0 0) 1 24 := TI.of (by kernel_rfl)
theorem A35 : AG Tryz.prog 36 false := AG.no Tryz.underlying36 (by simp) (by simp)
theorem N35 : NI Tryz.prog 36 := NI.of Tryz.underlying36
theorem T101 : TI Tryz.prog 139 (.agg #[(.int .i64 0), (.int .i64 0), (.string ⟨#[]⟩), (.int .i64 0)]) 4 40 := TI.of (by kernel_rfl)
theorem A101 : AG Tryz.prog 139 true := AG.struct Tryz.underlying139
theorem N101 : NI Tryz.prog 139 := NI.of Tryz.underlying139
theorem T37 : TI Tryz.prog 38 (.agg #[(.slice none 0 0)]) 1 24 := TI.of (by kernel_rfl)
theorem A37 : AG Tryz.prog 38 true := AG.struct Tryz.underlying38
theorem N37 : NI Tryz.prog 38 := NI.of Tryz.underlying38
theorem T102 : TI Tryz.prog 74 (.slice none 0 0) 1 24 := TI.of (by kernel_rfl)
theorem A102 : AG Tryz.prog 74 false := AG.no Tryz.underlying74 (by simp) (by simp)
theorem N102 : NI Tryz.prog 74 := NI.of Tryz.underlying74
theorem T106 : TI Tryz.prog 86 (.slice none 0 0) 1 24 := TI.of (by kernel_rfl)
theorem A106 : AG Tryz.prog 86 false := AG.no Tryz.underlying86 (by simp) (by simp)
theorem N106 : NI Tryz.prog 86 := NI.of Tryz.underlying86
theorem T108 : TI Tryz.prog 88 (.agg #[(.nilIface), (.int .i64 0), (.bool false)]) 3 32 := TI.of (by kernel_rfl)
theorem A108 : AG Tryz.prog 88 true := AG.struct Tryz.underlying88
theorem N108 : NI Tryz.prog 88 := NI.of Tryz.underlying88
theorem T109 : TI Tryz.prog 89 (.slice none 0 0) 1 24 := TI.of (by kernel_rfl)
theorem A109 : AG Tryz.prog 89 false := AG.no Tryz.underlying89 (by simp) (by simp)
theorem N109 : NI Tryz.prog 89 := NI.of Tryz.underlying89
theorem T110 : TI Tryz.prog 90 (.slice none 0 0) 1 24 := TI.of (by kernel_rfl)
theorem A110 : AG Tryz.prog 90 false := AG.no Tryz.underlying90 (by simp) (by simp)
theorem N110 : NI Tryz.prog 90 := NI.of Tryz.underlying90
theorem T112 : TI Tryz.prog 92 (.agg #[(.slice none 0 0), (.slice none 0 0)]) 2 48 := TI.of (by kernel_rfl)
theorem A112 : AG Tryz.prog 92 true := AG.struct Tryz.underlying92
theorem N112 : NI Tryz.prog 92 := NI.of Tryz.underlying92
theorem T52 : TI Tryz.prog 111 (.slice none 0 0) 1 24 := TI.of (by kernel_rfl)
theorem A52 : AG Tryz.prog 111 false := AG.no Tryz.underlying111 (by simp) (by simp)
theorem N52 : NI Tryz.prog 111 := NI.of Tryz.underlying111
theorem T144 : TI Tryz.prog 114 (.slice none 0 0) 1 24 := TI.of (by kernel_rfl)
theorem A144 : AG Tryz.prog 114 false := AG.no Tryz.underlying114 (by simp) (by simp)
theorem N144 : NI Tryz.prog 114 := NI.of Tryz.underlying114
theorem T154 : TI Tryz.prog 127 (.int .u64 0) 1 8 := TI.of (by kernel_rfl)
theorem A154 : AG Tryz.prog 127 false := AG.no Tryz.underlying127 (by simp) (by simp)
theorem N154 : NI Tryz.prog 127 := NI.of Tryz.underlying127
theorem O79_0 : FO Tryz.prog 78 0 0 := FO.of Tryz.underlying78 rfl rfl rfl T3 (Nat.succ_ne_zero _)
theorem O79_1 : FO Tryz.prog 78 1 1 := FO.of Tryz.underlying78 rfl rfl rfl T2 (Nat.succ_ne_zero _)
theorem O79_2 : FO Tryz.prog 78 2 2 := FO.of Tryz.underlying78 rfl rfl rfl T9 (Nat.succ_ne_zero _)
theorem O79_3 : FO Tryz.prog 78 3 3 := FO.of Tryz.underlying78 rfl rfl rfl T3 (Nat.succ_ne_zero _)
theorem O42_0 : FO Tryz.prog 45 0 0 := FO.of Tryz.underlying45 rfl rfl rfl T40 (Nat.succ_ne_zero _)
theorem O101_0 : FO Tryz.prog 139 0 0 := FO.of Tryz.underlying139 rfl rfl rfl T3 (Nat.succ_ne_zero _)
theorem O101_1 : FO Tryz.prog 139 1 1 := FO.of Tryz.underlying139 rfl rfl rfl T2 (Nat.succ_ne_zero _)
theorem O101_2 : FO Tryz.prog 139 2 2 := FO.of Tryz.underlying139 rfl rfl rfl T9 (Nat.succ_ne_zero _)
theorem O101_3 : FO Tryz.prog 139 3 3 := FO.of Tryz.underlying139 rfl rfl rfl T3 (Nat.succ_ne_zero _)
theorem O37_0 : FO Tryz.prog 38 0 0 := FO.of Tryz.underlying38 rfl rfl rfl T35 (Nat.succ_ne_zero _)
theorem O108_0 : FO Tryz.prog 88 0 0 := FO.of Tryz.underlying88 rfl rfl rfl T71 (Nat.succ_ne_zero _)
theorem O108_1 : FO Tryz.prog 88 1 1 := FO.of Tryz.underlying88 rfl rfl rfl T3 (Nat.succ_ne_zero _)
theorem O108_2 : FO Tryz.prog 88 2 2 := FO.of Tryz.underlying88 rfl rfl rfl T4 (Nat.succ_ne_zero _)
theorem O112_0 : FO Tryz.prog 92 0 0 := FO.of Tryz.underlying92 rfl rfl rfl T24 (Nat.succ_ne_zero _)
theorem O112_1 : FO Tryz.prog 92 1 1 := FO.of Tryz.underlying92 rfl rfl rfl T109 (Nat.succ_ne_zero _)
end Go.Proofs.YtmiihhbgfijcmaaGreat.K

