/-
  The witness: a world in which the listed variables read as listed.
-/
import Derived.Test.YtfbnfdcbcobogaaGreatDoorRows
import Derived.KernelRfl
import Derived.ProofKit
import Derived.LaidMore
import Derived.Lay
namespace Go.Proofs.YtfbnfdcbcobogaaGreatDoor
open Go Go.ChangeShapes Go.WideShapes Go.ChangeAt Go.RowKit Go.ChangeMaps

abbrev laidW : List (String × DataW Unit) := Rows.composeBoundsRow.laid
def greatW : List String := ["unicode.CaseRanges", "unicode/utf8.first"]
noncomputable def greatL : List (String × DataW Unit) := laidW.filter fun x => greatW.contains x.1
noncomputable def smallL : List (String × DataW Unit) := laidW.filter fun x => !greatW.contains x.1
noncomputable def wit (os : Os) : World := (World.doorLaid Tryz.prog 117 os).layVars Tryz.prog greatL
theorem wit_os (os : Os) : (wit os).os = os := (World.layVars_os _ _ _).trans rfl
noncomputable def wiw (os : Os) (args : Array Value) : World := ((wit os).forCall (fun _ _ => 0) ⟨#[], args, []⟩).memory
noncomputable def wrun (os : Os) (args : Array Value) : Option (List (String × DataW Unit) × List MemPlace) := DataW.laidRun Tryz.prog (wiw os args) 8 (smallL.map (·.1))
noncomputable def blocksW : List Nat := (((DataW.laidRun Tryz.prog (wit default) 8 (smallL.map (·.1))).map fun x => (x.2.map MemPlace.block).eraseDups)).getD []
theorem wit_fits (os : Os) : (World.doorLaid Tryz.prog 117 os).layFits Tryz.prog greatL blocksW = true := by kernel_rfl
theorem wit_ifaces (os : Os) (args : Array Value) : (World.doorLaid Tryz.prog 117 os).layIfaces Tryz.prog greatL (wiw os args) = true := by kernel_rfl
theorem wit_run (os : Os) (args : Array Value) : (wrun os args).map (·.1) = some smallL := by kernel_rfl
theorem wit_dup (os : Os) (args : Array Value) : (wrun os args).map (fun x => nodupB (x.2.map MemPlace.codeOf)) = some true := by kernel_rfl
theorem wit_rows (os : Os) (args : Array Value) : (wrun os args).map (fun x => laidRowsB Tryz.prog (wiw os args) x.2) = some true := by kernel_rfl
theorem wit_blk (os : Os) (args : Array Value) : (wrun os args).map (fun x => x.2.all fun p => blocksW.contains p.block) = some true := by kernel_rfl
theorem wit_met (os : Os) (args : Array Value) : laidMet Tryz.prog laidW (wiw os args) :=
  laidMet_layVars (w0 := World.doorLaid Tryz.prog 117 os) greatW blocksW (by simp [wiw, wit, greatL, World.memory, World.forCall, Input.heap]) (wit_fits os) (wit_ifaces os args)
    (LaidIn.of_run blocksW 8 (wit_run os args) (wit_dup os args) (wit_rows os args) (wit_blk os args))
noncomputable def wic (os : Os) (args : Array Value) : World := (wit os).forCall (fun _ _ => 0) ⟨#[], args, []⟩
theorem wit_zip (os : Os) (args : Array Value) : (wic os args).variablesZipB Tryz.prog = true := by kernel_rfl
theorem wit_rest (os : Os) (args : Array Value) : ((wic os args).heap.toList.drop Tryz.prog.globals.size).take ((begin Tryz.prog (fun _ _ => 0) default).world.heap.size - Tryz.prog.globals.size) =
      (begin Tryz.prog (fun _ _ => 0) default).world.heap.toList.drop Tryz.prog.globals.size := by kernel_rfl
theorem wit_shaped (os : Os) (args : Array Value) : (wic os args).Shaped Tryz.prog := World.shaped_of_ZipB (wit_zip os args) (wit_rest os args)
noncomputable def argW : Array Value := #[.string ⟨#[]⟩]
theorem wit_ok (os : Os) : Input.okWideB Tryz.prog (wic os argW) 3 ⟨#[], argW, []⟩ = true := by kernel_rfl
theorem wit_pre (os : Os) {H : Type} (enc : TypeId × Value → H) : Rows.composeBoundsSpec.preB enc Tryz.prog Tryz.f3 Rows.composeBoundsRow.domain false (wiw os argW) argW 8 = true := by kernel_rfl
theorem wit_sized (os : Os) {H : Type} (enc : TypeId × Value → H) : Rows.composeBoundsSpec.sizedB enc Tryz.prog Tryz.f3 false (wiw os argW) argW 8 = true := by kernel_rfl
end Go.Proofs.YtfbnfdcbcobogaaGreatDoor
