import Derived.Test.YtkfoibidnkfndaaGreatDoorAbS13
import Derived.Test.YtkfoibidnkfndaaGreatDoorRows
import Derived.WalkKit
import Derived.ProofKit
import Derived.OpenShut
import Derived.Deep.DeepHandedRow
import Derived.Lib.LaidTab
set_option linter.unusedSimpArgs false
set_option linter.unusedVariables false
namespace Go.Proofs.YtkfoibidnkfndaaGreatDoor
open Go.ChangeShapes Go.WideShapes Go.ChangeAt Go.RowKit Go.Abs
theorem own : ownKnob Tryz.prog.godebug = none := by kernel_rfl
def exts : Exts := [(125, .mark1), (126, .mark0), (130, .mark0), (131, .mark1), (132, .mark1), (133, .mark1), (166, .add .i32), (192, .cas .i32)]
theorem row125 : RowOK Tryz.prog 125 (.mark1) := ⟨Tryz.f125, _, by kernel_rfl, by kernel_rfl, by kernel_rfl, by kernel_rfl, by kernel_rfl, Go.Abs.ext_mark1 .read⟩
theorem row126 : RowOK Tryz.prog 126 (.mark0) := ⟨Tryz.f126, _, by kernel_rfl, by kernel_rfl, by kernel_rfl, by kernel_rfl, by kernel_rfl, Go.Abs.ext_mark0' .disable⟩
theorem row130 : RowOK Tryz.prog 130 (.mark0) := ⟨Tryz.f130, _, by kernel_rfl, by kernel_rfl, by kernel_rfl, by kernel_rfl, by kernel_rfl, Go.Abs.ext_mark0' .enable⟩
theorem row131 : RowOK Tryz.prog 131 (.mark1) := ⟨Tryz.f131, _, by kernel_rfl, by kernel_rfl, by kernel_rfl, by kernel_rfl, by kernel_rfl, Go.Abs.ext_mark1 .acquire⟩
theorem row132 : RowOK Tryz.prog 132 (.mark1) := ⟨Tryz.f132, _, by kernel_rfl, by kernel_rfl, by kernel_rfl, by kernel_rfl, by kernel_rfl, Go.Abs.ext_mark1 .release⟩
theorem row133 : RowOK Tryz.prog 133 (.mark1) := ⟨Tryz.f133, _, by kernel_rfl, by kernel_rfl, by kernel_rfl, by kernel_rfl, by kernel_rfl, Go.Abs.ext_mark1 .releaseMerge⟩
theorem row166 : RowOK Tryz.prog 166 (.add .i32) := ⟨Tryz.f166, _, by kernel_rfl, by kernel_rfl, by kernel_rfl, by kernel_rfl, by kernel_rfl, Go.Abs.ext_add .i32⟩
theorem row192 : RowOK Tryz.prog 192 (.cas .i32) := ⟨Tryz.f192, _, by kernel_rfl, by kernel_rfl, by kernel_rfl, by kernel_rfl, by kernel_rfl, Go.Abs.ext_cas .i32⟩
theorem rowsOK : RowsOK Tryz.prog exts := .cons row125 (.cons row126 (.cons row130 (.cons row131 (.cons row132 (.cons row133 (.cons row166 (.cons row192 (.nil))))))))
set_option maxRecDepth 100000 in
theorem bodies : goodBodies Tryz.prog.globals.size Tryz.prog.funcs.toList = true := by kernel_rfl
theorem extOK : ExtOK Tryz.prog exts := extOK_of (by kernel_rfl) rowsOK bodies
noncomputable abbrev P : Program := Tryz.prog
set_option maxRecDepth 100000 in
theorem knownRun : (lvl Tryz.prog exts 100000).call 16 #[] ⟨16, .leaf, []⟩ (fun v _ => isTrueV v) = (true = true) := by kernel_rfl
theorem roomy : Tryz.prog.globals.size ≤ 16 := of_decide_eq_true (by kernel_rfl)
/-- known() is true, whatever the memory. -/
theorem known (w0 : World) (h : Heap) (R : Value → Heap → Prop) (hR : R (.bool true) h) : (top P w0).call 16 #[] h R := by
  refine call_fresh (N := 16) (V := isTrueV) roomy rfl (fun v hv => ?_) (fun w => ?_) (fun v hv => ?_)
  · cases v <;> first | rfl | exact hv.elim
  · exact top_of_lvl extOK knownRun
  · cases v <;> first | exact hv.elim | skip
    rename_i b
    cases b with
    | true => exact hR
    | false => cases hv
end Go.Proofs.YtkfoibidnkfndaaGreatDoor
