/-
  TapNils: for every input the law returns true, and each argument reads behind the call as it read before. CONDITIONS: the row's own (its cells). The walk is run by a verified abstract machine (the texts ..Ab..).
-/
import Derived.Test.YtkfoibidnkfndaaGreatDoorAbA18
import Derived.Test.YtkfoibidnkfndaaGreatDoorRows
import Derived.WalkKit
import Derived.ProofKit
import Derived.OpenShut
import Derived.Deep.DeepHandedRow
import Derived.Lib.LaidTab
namespace Go.Proofs.YtkfoibidnkfndaaGreatDoor.tapNils
open Go.ChangeShapes Go.WideShapes Go.ChangeAt Go.RowKit Go.Abs

theorem own : ownKnob Tryz.prog.godebug = none := by kernel_rfl
def exts : Exts := [(125, .mark1), (126, .mark0), (130, .mark0), (131, .mark1), (132, .mark1), (133, .mark1), (166, .add .i32), (192, .cas .i32)]
theorem row125 : RowOK Tryz.prog 125 (.mark1) := ⟨Tryz.f125, _, by kernel_rfl, by kernel_rfl, by kernel_rfl, by kernel_rfl, by kernel_rfl, Go.Abs.ext_mark1 .read⟩
theorem row126 : RowOK Tryz.prog 126 (.mark0) := ⟨Tryz.f126, _, by kernel_rfl, by kernel_rfl, by kernel_rfl, by kernel_rfl, by kernel_rfl, Go.Abs.ext_mark0' .disable⟩
theorem row130 : RowOK Tryz.prog 130 (.mark0) := ⟨Tryz.f130, _, by kernel_rfl, by kernel_rfl, by kernel_rfl, by kernel_rfl, by kernel_rfl, Go.Abs.ext_mark0' .enable⟩
theorem row131 : RowOK Tryz.prog 131 (.mark1) := ⟨Tryz.f131, _, by kernel_rfl, by kernel_rfl, by kernel_rfl, by kernel_rfl, by kernel_rfl, Go.Abs.ext_mark1 .acquire⟩
theorem row132 : RowOK Tryz.prog 132 (.mark1) := ⟨Tryz.f132, _, by kernel_rfl, by kernel_rfl, by kernel_rfl, by kernel_rfl, by kernel_rfl, Go.Abs.ext_mark1 .release⟩
theorem row133 : RowOK Tryz.prog 133 (.mark1) := ⟨Tryz.f133, _, by kernel_rfl, by kernel_rfl, by kernel_rfl, by kernel_rfl, by kernel_rfl, Go.Abs.ext_mark1 .releaseMerge⟩
theorem row166 : RowOK Tryz.prog 166 (.add .i32) := ⟨Tryz.f166, _, by kernel_rfl, by kernel_rfl, by kernel_rfl, by kernel_rfl, by kernel_rfl, Go.Abs.ext_add .i32⟩
theorem row192 : RowOK Tryz.prog 192 (.cas .i32) := ⟨Tryz.f192, _, by kernel_rfl, by kernel_rfl, by kernel_rfl, by kernel_rfl, by kernel_rfl, Go.Abs.ext_cas .i32⟩
theorem rowsOK : RowsOK Tryz.prog exts := .cons row125 (.cons row126 (.cons row130 (.cons row131 (.cons row132 (.cons row133 (.cons row166 (.cons row192 (.nil))))))))
set_option maxRecDepth 100000 in
theorem bodies : goodBodies Tryz.prog.globals.size Tryz.prog.funcs.toList = true := by kernel_rfl
theorem extOK : ExtOK Tryz.prog exts := extOK_of (by kernel_rfl) rowsOK bodies
set_option maxRecDepth 100000 in
/-- THE WALK, run by the kernel. -/
theorem run (a0 a1 : Int) : (lvl Tryz.prog exts 100000).call 13 #[.int .i64 a0, .int .i64 a1] ⟨16, .leaf, []⟩ (fun v _ => isTrueV v) = (true = true) := by kernel_rfl
end Go.Proofs.YtkfoibidnkfndaaGreatDoor.tapNils
