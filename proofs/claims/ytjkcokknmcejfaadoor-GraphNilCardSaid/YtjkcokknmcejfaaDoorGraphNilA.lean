/-
  GraphNil: for every input the law returns true, and each argument reads behind the call as it read before. CONDITIONS: the row's own (its cells). The walk is run by a verified abstract machine (the texts ..Ab..).
-/
import Derived.Test.YtjkcokknmcejfaaDoorAbA18
import Derived.Test.YtjkcokknmcejfaaDoorRows
import Derived.WalkKit
import Derived.ProofKit
import Derived.OpenShut
import Derived.Deep.DeepHandedRow
import Derived.Lib.LaidTab
namespace Go.Proofs.YtjkcokknmcejfaaDoor.graphNil
open Go.ChangeShapes Go.WideShapes Go.ChangeAt Go.RowKit Go.Abs

theorem own : ownKnob Tryd.prog.godebug = none := by kernel_rfl
def exts : Exts := []
theorem rowsOK : RowsOK Tryd.prog exts := .nil
set_option maxRecDepth 100000 in
theorem bodies : goodBodies Tryd.prog.globals.size Tryd.prog.funcs.toList = true := by kernel_rfl
theorem extOK : ExtOK Tryd.prog exts := extOK_of (by kernel_rfl) rowsOK bodies
set_option maxRecDepth 100000 in
/-- THE WALK, run by the kernel. -/
theorem run (a0 : Int) : (lvl Tryd.prog exts 100000).call 4 #[.int .i64 a0] ⟨14, .leaf, []⟩ (fun v _ => isTrueV v) = (true = true) := by kernel_rfl
end Go.Proofs.YtjkcokknmcejfaaDoor.graphNil
