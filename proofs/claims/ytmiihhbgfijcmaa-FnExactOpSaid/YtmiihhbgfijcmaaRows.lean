/-
  No cell of these rows narrows 'for every input' (looked for: loops, veiled, ifaces, maps, wideKeys, modest, calm, conditions, laid).
  DERIVED. THE GIVEN ROWS OF THIS SEAT. 7 by the template 'for every input the law returns true; each argument reads behind the call as it read before'; 0 by the template 'total and deterministic' (their statements: YtmiihhbgfijcmaaTotals.lean).
  GIVEN WITH THE SEED: the statements are not yours to turn. If you find one false, say at which input.
  Laid BY PROGRAM, IN A SANDBOX (cutbox-rows.mjs): the forced cells as the released guide's own fill.sh prints them over the translation d88ebf46a74e05e6… (all of the seat's roots in one cut). By AI agents, Wed Nov 11 2026. No macro, syntax, notation, axiom, sorry.
-/
import Derived.Test.YtmiihhbgfijcmaaChecked
import GoSem.Claim
import GoSem.ClaimJoined
import GoSem.ClaimMapViews
import Derived.JoinedTies
import Derived.KernelRfl
namespace Go.Proofs.Ytmiihhbgfijcmaa
/- THE CELL 'sum', in the pinned program and in every row, IS THE sha256 OF THE DUMP (.gsa) THAT YtmiihhbgfijcmaaProg.lean LOADS. Nothing in Lean hashes anything: it is a label: what it is worth is what the hold of that sum in a sandbox is worth. -/
noncomputable def Try.pinned : Pinned := { name := "ytmiihhbgfijcmaa", sum := "d88ebf46a74e05e6ab8a331a0b7e8b3e3ce2a8ccaf84b3ab7fc310c7471a7adb", checked := Try.checked }
namespace Rows
def none {H : Type} : Left H := { results := [], args := [] }

/-- 'laws.FnExactConstants': WHATEVER THE INPUT: true; the input reads as it did. -/
def fnExactConstantsSpec : ChangeSpec := { name := "fnExactConstants", fn := fun _ => fun
  | [] => { results := [.lit (.bool true)], args := [] }
  | _ => none }
def fnExactConstantsRow : OpenClaim := { program := "ytmiihhbgfijcmaa", sum := "d88ebf46a74e05e6ab8a331a0b7e8b3e3ce2a8ccaf84b3ab7fc310c7471a7adb", func := "loop.example/kilnclay/laws.FnExactConstants", spec := "fnExactConstants", apart := false }
def FnExactConstantsSaid : Prop := fnExactConstantsRow.holds Try.pinned (OpenSpec.ofChange fnExactConstantsSpec)

/-- ITS FALSE NEIGHBOUR: 'it returns false'. Refute it at one input. -/
def fnExactConstantsWrong : ChangeSpec := { name := "fnExactConstants", fn := fun _ => fun
  | [] => { results := [.lit (.bool false)], args := [] }
  | _ => none }
def FnExactConstantsWrongFalsely : Prop := fnExactConstantsRow.holds Try.pinned (OpenSpec.ofChange fnExactConstantsWrong)

/-- 'laws.FnExactValidWorld': WHATEVER THE INPUT: true; the input reads as it did. -/
def fnExactValidWorldSpec : ChangeSpec := { name := "fnExactValidWorld", fn := fun _ => fun
  | [d] => { results := [.lit (.bool true)], args := [d] }
  | _ => none }
def fnExactValidWorldRow : OpenClaim := { program := "ytmiihhbgfijcmaa", sum := "d88ebf46a74e05e6ab8a331a0b7e8b3e3ce2a8ccaf84b3ab7fc310c7471a7adb", func := "loop.example/kilnclay/laws.FnExactValidWorld", spec := "fnExactValidWorld", inPlace := ["internal/bytealg.IndexByteString"], apart := false }
def FnExactValidWorldSaid : Prop := fnExactValidWorldRow.holds Try.pinned (OpenSpec.ofChange fnExactValidWorldSpec)

/-- ITS FALSE NEIGHBOUR: 'it returns false'. Refute it at one input. -/
def fnExactValidWorldWrong : ChangeSpec := { name := "fnExactValidWorld", fn := fun _ => fun
  | [d] => { results := [.lit (.bool false)], args := [d] }
  | _ => none }
def FnExactValidWorldWrongFalsely : Prop := fnExactValidWorldRow.holds Try.pinned (OpenSpec.ofChange fnExactValidWorldWrong)

/-- 'laws.FnExactValidValue': WHATEVER THE INPUT: true; the input reads as it did. -/
def fnExactValidValueSpec : ChangeSpec := { name := "fnExactValidValue", fn := fun _ => fun
  | [d] => { results := [.lit (.bool true)], args := [d] }
  | _ => none }
def fnExactValidValueRow : OpenClaim := { program := "ytmiihhbgfijcmaa", sum := "d88ebf46a74e05e6ab8a331a0b7e8b3e3ce2a8ccaf84b3ab7fc310c7471a7adb", func := "loop.example/kilnclay/laws.FnExactValidValue", spec := "fnExactValidValue", recurses := true, apart := false }
def FnExactValidValueSaid : Prop := fnExactValidValueRow.holds Try.pinned (OpenSpec.ofChange fnExactValidValueSpec)

/-- ITS FALSE NEIGHBOUR: 'it returns false'. Refute it at one input. -/
def fnExactValidValueWrong : ChangeSpec := { name := "fnExactValidValue", fn := fun _ => fun
  | [d] => { results := [.lit (.bool false)], args := [d] }
  | _ => none }
def FnExactValidValueWrongFalsely : Prop := fnExactValidValueRow.holds Try.pinned (OpenSpec.ofChange fnExactValidValueWrong)

/-- 'laws.FnExactOrder': WHATEVER THE INPUT: true; the input reads as it did. -/
def fnExactOrderSpec : ChangeSpec := { name := "fnExactOrder", fn := fun _ => fun
  | [d1, d2] => { results := [.lit (.bool true)], args := [d1, d2] }
  | _ => none }
def fnExactOrderRow : OpenClaim := { program := "ytmiihhbgfijcmaa", sum := "d88ebf46a74e05e6ab8a331a0b7e8b3e3ce2a8ccaf84b3ab7fc310c7471a7adb", func := "loop.example/kilnclay/laws.FnExactOrder", spec := "fnExactOrder", inPlace := ["internal/bytealg.abigen_runtime_cmpstring"], unfollowed := true, recurses := true, apart := false }
def FnExactOrderSaid : Prop := fnExactOrderRow.holds Try.pinned (OpenSpec.ofChange fnExactOrderSpec)

/-- ITS FALSE NEIGHBOUR: 'it returns false'. Refute it at one input. -/
def fnExactOrderWrong : ChangeSpec := { name := "fnExactOrder", fn := fun _ => fun
  | [d1, d2] => { results := [.lit (.bool false)], args := [d1, d2] }
  | _ => none }
def FnExactOrderWrongFalsely : Prop := fnExactOrderRow.holds Try.pinned (OpenSpec.ofChange fnExactOrderWrong)

/-- 'laws.FnExactUn': WHATEVER THE INPUT: true; the input reads as it did. -/
def fnExactUnSpec : ChangeSpec := { name := "fnExactUn", fn := fun _ => fun
  | [d1, d2] => { results := [.lit (.bool true)], args := [d1, d2] }
  | _ => none }
def fnExactUnRow : OpenClaim := { program := "ytmiihhbgfijcmaa", sum := "d88ebf46a74e05e6ab8a331a0b7e8b3e3ce2a8ccaf84b3ab7fc310c7471a7adb", func := "loop.example/kilnclay/laws.FnExactUn", spec := "fnExactUn", unfollowed := true, recurses := true, apart := false }
def FnExactUnSaid : Prop := fnExactUnRow.holds Try.pinned (OpenSpec.ofChange fnExactUnSpec)

/-- ITS FALSE NEIGHBOUR: 'it returns false'. Refute it at one input. -/
def fnExactUnWrong : ChangeSpec := { name := "fnExactUn", fn := fun _ => fun
  | [d1, d2] => { results := [.lit (.bool false)], args := [d1, d2] }
  | _ => none }
def FnExactUnWrongFalsely : Prop := fnExactUnRow.holds Try.pinned (OpenSpec.ofChange fnExactUnWrong)

/-- 'laws.FnOrder': WHATEVER THE INPUT: true; the input reads as it did. -/
def fnOrderSpec : ChangeSpec := { name := "fnOrder", fn := fun _ => fun
  | [d1, d2] => { results := [.lit (.bool true)], args := [d1, d2] }
  | _ => none }
def fnOrderRow : OpenClaim := { program := "ytmiihhbgfijcmaa", sum := "d88ebf46a74e05e6ab8a331a0b7e8b3e3ce2a8ccaf84b3ab7fc310c7471a7adb", func := "loop.example/kilnclay/laws.FnOrder", spec := "fnOrder", inPlace := ["internal/bytealg.abigen_runtime_cmpstring"], unfollowed := true, recurses := true, apart := false }
def FnOrderSaid : Prop := fnOrderRow.holds Try.pinned (OpenSpec.ofChange fnOrderSpec)

/-- ITS FALSE NEIGHBOUR: 'it returns false'. Refute it at one input. -/
def fnOrderWrong : ChangeSpec := { name := "fnOrder", fn := fun _ => fun
  | [d1, d2] => { results := [.lit (.bool false)], args := [d1, d2] }
  | _ => none }
def FnOrderWrongFalsely : Prop := fnOrderRow.holds Try.pinned (OpenSpec.ofChange fnOrderWrong)

/-- 'laws.FnExactOp': WHATEVER THE INPUT: true; the input reads as it did. -/
def fnExactOpSpec : ChangeSpec := { name := "fnExactOp", fn := fun _ => fun
  | [d1, d2, d3] => { results := [.lit (.bool true)], args := [d1, d2, d3] }
  | _ => none }
def fnExactOpRow : OpenClaim := { program := "ytmiihhbgfijcmaa", sum := "d88ebf46a74e05e6ab8a331a0b7e8b3e3ce2a8ccaf84b3ab7fc310c7471a7adb", func := "loop.example/kilnclay/laws.FnExactOp", spec := "fnExactOp", inPlace := ["internal/bytealg.abigen_runtime_cmpstring", "internal/bytealg.IndexByteString", "internal/bytealg.IndexString"], unfollowed := true, recurses := true, named := ["internal/bytealg.MaxLen"], apart := false }
def FnExactOpSaid : Prop := fnExactOpRow.holds Try.pinned (OpenSpec.ofChange fnExactOpSpec)

/-- ITS FALSE NEIGHBOUR: 'it returns false'. Refute it at one input. -/
def fnExactOpWrong : ChangeSpec := { name := "fnExactOp", fn := fun _ => fun
  | [d1, d2, d3] => { results := [.lit (.bool false)], args := [d1, d2, d3] }
  | _ => none }
def FnExactOpWrongFalsely : Prop := fnExactOpRow.holds Try.pinned (OpenSpec.ofChange fnExactOpWrong)

/- THE SECOND FORM. 'bulk': how many values and letters a reading holds, each counted each time it is reached (what is shared counts as often as it is met; a slice's spare places count too). A statement '..UptoSaid' is the law's where the arguments, and the package variables that the reading takes, are together of bulk at most 1048576: NARROWER than '..Said'. Prove '..Said' where nothing that the law and all that it calls make is longer than what came in: it says more and counts as full. Else prove '..UptoSaid'. A law counts once. -/
mutual
def uptoBulk {H : Type} : DataW H → Nat
  | .lit (.string bytes) => bytes.length + 1
  | .lit _ => 1
  | .nil => 1
  | .ptr d => uptoBulk d + 1
  | .slice elems spare => uptoBulkAll elems + uptoBulkAll spare + 1
  | .agg parts => uptoBulkAll parts + 1
  | .iface _ d => uptoBulk d + 1
  | .map entries => uptoBulkEntries entries + 1
  | .held _ => 1
def uptoBulkAll {H : Type} : List (DataW H) → Nat
  | [] => 0
  | d :: r => uptoBulk d + uptoBulkAll r
def uptoBulkEntries {H : Type} : List (Lit × DataW H) → Nat
  | [] => 0
  | x :: r => uptoBulkEntry x + uptoBulkEntries r
def uptoBulkEntry {H : Type} : Lit × DataW H → Nat
  | (.string bytes, d) => bytes.length + uptoBulk d + 1
  | (_, d) => uptoBulk d + 1
 end
def uptoSmall : (H : Type) → List (DataW H) → Bool := fun _ ds => decide (uptoBulkAll ds ≤ 1048576)
def OpenSpec.upto (s : _root_.Go.ChangeSpec) : _root_.Go.OpenSpec := { _root_.Go.OpenSpec.ofChange s with cond := some uptoSmall }

/-- 'laws.FnExactConstants', WHERE WHAT IT READS IS OF BULK AT MOST 1048576: true; the input reads as it did. -/
def fnExactConstantsUptoRow : OpenClaim := { program := "ytmiihhbgfijcmaa", sum := "d88ebf46a74e05e6ab8a331a0b7e8b3e3ce2a8ccaf84b3ab7fc310c7471a7adb", func := "loop.example/kilnclay/laws.FnExactConstants", spec := "fnExactConstants", apart := false, narrowed := true }
def FnExactConstantsUptoSaid : Prop := fnExactConstantsUptoRow.holds Try.pinned (OpenSpec.upto fnExactConstantsSpec)

/-- 'laws.FnExactValidWorld', WHERE WHAT IT READS IS OF BULK AT MOST 1048576: true; the input reads as it did. -/
def fnExactValidWorldUptoRow : OpenClaim := { program := "ytmiihhbgfijcmaa", sum := "d88ebf46a74e05e6ab8a331a0b7e8b3e3ce2a8ccaf84b3ab7fc310c7471a7adb", func := "loop.example/kilnclay/laws.FnExactValidWorld", spec := "fnExactValidWorld", inPlace := ["internal/bytealg.IndexByteString"], apart := false, narrowed := true }
def FnExactValidWorldUptoSaid : Prop := fnExactValidWorldUptoRow.holds Try.pinned (OpenSpec.upto fnExactValidWorldSpec)

/-- 'laws.FnExactValidValue', WHERE WHAT IT READS IS OF BULK AT MOST 1048576: true; the input reads as it did. -/
def fnExactValidValueUptoRow : OpenClaim := { program := "ytmiihhbgfijcmaa", sum := "d88ebf46a74e05e6ab8a331a0b7e8b3e3ce2a8ccaf84b3ab7fc310c7471a7adb", func := "loop.example/kilnclay/laws.FnExactValidValue", spec := "fnExactValidValue", recurses := true, apart := false, narrowed := true }
def FnExactValidValueUptoSaid : Prop := fnExactValidValueUptoRow.holds Try.pinned (OpenSpec.upto fnExactValidValueSpec)

/-- 'laws.FnExactOrder', WHERE WHAT IT READS IS OF BULK AT MOST 1048576: true; the input reads as it did. -/
def fnExactOrderUptoRow : OpenClaim := { program := "ytmiihhbgfijcmaa", sum := "d88ebf46a74e05e6ab8a331a0b7e8b3e3ce2a8ccaf84b3ab7fc310c7471a7adb", func := "loop.example/kilnclay/laws.FnExactOrder", spec := "fnExactOrder", inPlace := ["internal/bytealg.abigen_runtime_cmpstring"], unfollowed := true, recurses := true, apart := false, narrowed := true }
def FnExactOrderUptoSaid : Prop := fnExactOrderUptoRow.holds Try.pinned (OpenSpec.upto fnExactOrderSpec)

/-- 'laws.FnExactUn', WHERE WHAT IT READS IS OF BULK AT MOST 1048576: true; the input reads as it did. -/
def fnExactUnUptoRow : OpenClaim := { program := "ytmiihhbgfijcmaa", sum := "d88ebf46a74e05e6ab8a331a0b7e8b3e3ce2a8ccaf84b3ab7fc310c7471a7adb", func := "loop.example/kilnclay/laws.FnExactUn", spec := "fnExactUn", unfollowed := true, recurses := true, apart := false, narrowed := true }
def FnExactUnUptoSaid : Prop := fnExactUnUptoRow.holds Try.pinned (OpenSpec.upto fnExactUnSpec)

/-- 'laws.FnOrder', WHERE WHAT IT READS IS OF BULK AT MOST 1048576: true; the input reads as it did. -/
def fnOrderUptoRow : OpenClaim := { program := "ytmiihhbgfijcmaa", sum := "d88ebf46a74e05e6ab8a331a0b7e8b3e3ce2a8ccaf84b3ab7fc310c7471a7adb", func := "loop.example/kilnclay/laws.FnOrder", spec := "fnOrder", inPlace := ["internal/bytealg.abigen_runtime_cmpstring"], unfollowed := true, recurses := true, apart := false, narrowed := true }
def FnOrderUptoSaid : Prop := fnOrderUptoRow.holds Try.pinned (OpenSpec.upto fnOrderSpec)

/-- 'laws.FnExactOp', WHERE WHAT IT READS IS OF BULK AT MOST 1048576: true; the input reads as it did. -/
def fnExactOpUptoRow : OpenClaim := { program := "ytmiihhbgfijcmaa", sum := "d88ebf46a74e05e6ab8a331a0b7e8b3e3ce2a8ccaf84b3ab7fc310c7471a7adb", func := "loop.example/kilnclay/laws.FnExactOp", spec := "fnExactOp", inPlace := ["internal/bytealg.abigen_runtime_cmpstring", "internal/bytealg.IndexByteString", "internal/bytealg.IndexString"], unfollowed := true, recurses := true, named := ["internal/bytealg.MaxLen"], apart := false, narrowed := true }
def FnExactOpUptoSaid : Prop := fnExactOpUptoRow.holds Try.pinned (OpenSpec.upto fnExactOpSpec)

end Rows
end Go.Proofs.Ytmiihhbgfijcmaa
