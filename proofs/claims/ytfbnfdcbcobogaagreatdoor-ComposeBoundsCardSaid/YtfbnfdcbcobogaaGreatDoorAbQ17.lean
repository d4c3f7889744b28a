/-
  The seat's facts: what the listed variables hold, what the shelf's functions do, in the world in which the law's call begins.
-/
import Derived.Test.YtfbnfdcbcobogaaGreatDoorAbC17
import Derived.Test.YtfbnfdcbcobogaaGreatDoorAbR
import Derived.Test.YtfbnfdcbcobogaaGreatDoorShelf
import Derived.Test.YtfbnfdcbcobogaaGreatDoorRows
import Derived.KernelRfl
import Derived.ProofKit
import Derived.LaidMore
namespace Go.Proofs.YtfbnfdcbcobogaaGreatDoor
open Go Go.Ab Go.RowKit

abbrev laidL : List (String × DataW Unit) := Rows.composeBoundsRow.laid

theorem gDays : Tryz.prog.globalNamed "pouch/date.weekdays" = some 0 := by kernel_rfl
theorem gMonths : Tryz.prog.globalNamed "pouch/date.months" = some 1 := by kernel_rfl
theorem gMax : Tryz.prog.globalNamed "internal/bytealg.MaxLen" = some 2 := by kernel_rfl
theorem gFirst : Tryz.prog.globalNamed "unicode/utf8.first" = some 5 := by kernel_rfl
theorem gAccept : Tryz.prog.globalNamed "unicode/utf8.acceptRanges" = some 6 := by kernel_rfl
theorem gPow : Tryz.prog.globalNamed "internal/strconv.uint64pow10" = some 7 := by kernel_rfl
noncomputable def ty (g : Nat) : TypeId := ((Tryz.prog.globals[g]?).map (·.type)).getD 0
theorem tDays : (Tryz.prog.globals[0]?).map (·.type) = some (ty 0) := by kernel_rfl
theorem tMonths : (Tryz.prog.globals[1]?).map (·.type) = some (ty 1) := by kernel_rfl
theorem tFirst : (Tryz.prog.globals[5]?).map (·.type) = some (ty 5) := by kernel_rfl
theorem tAccept : (Tryz.prog.globals[6]?).map (·.type) = some (ty 6) := by kernel_rfl
theorem tPow : (Tryz.prog.globals[7]?).map (·.type) = some (ty 7) := by kernel_rfl
theorem aDays : avs Tryz.prog 10 (ty 0) (Rows.laid_pouch_date_weekdays (H := Unit)) = some (strs8 days8) := by kernel_rfl
theorem aMonths : avs Tryz.prog 10 (ty 1) (Rows.laid_pouch_date_months (H := Unit)) = some (strs8 months8) := by kernel_rfl
theorem aFirst : avs Tryz.prog 10 (ty 5) Rows.laid_unicode_utf8_first = some first8 := by kernel_rfl
theorem aAccept : avs Tryz.prog 10 (ty 6) (Rows.laid_unicode_utf8_acceptRanges (H := Unit)) = some accept8 := by kernel_rfl
theorem aPow : avs Tryz.prog 10 (ty 7) (Rows.laid_internal_strconv_uint64pow10 (H := Unit)) = some pow10s := by kernel_rfl

theorem gok {W : World} (h : laidMetH Tryz.prog laidL W) : GOK C0 W := by
  rw [MakeChecks.laidMetH_plain _ _ _ (by kernel_rfl)] at h
  obtain ⟨ps, hl, _⟩ := h
  refine ⟨fun g v hv => ?_, fun f hf v w => ?_⟩
  · have hv : glob g = some v := hv
    unfold glob at hv
    split at hv
    · rename_i hb
      rw [beq_eq hb]
      injection hv with hv
      subst hv
      exact laid_glob hl (by simp [laidL, Rows.composeBoundsRow]) gDays tDays aDays
    · split at hv
      · rename_i hb
        rw [beq_eq hb]
        injection hv with hv
        subst hv
        exact laid_glob hl (by simp [laidL, Rows.composeBoundsRow]) gMonths tMonths aMonths
      · split at hv
        · rename_i hb
          rw [beq_eq hb]
          injection hv with hv
          subst hv
          exact laid_glob hl (by simp [laidL, Rows.composeBoundsRow]) gFirst tFirst aFirst
        · split at hv
          · rename_i hb
            rw [beq_eq hb]
            injection hv with hv
            subst hv
            exact laid_glob hl (by simp [laidL, Rows.composeBoundsRow]) gAccept tAccept aAccept
          · split at hv
            · rename_i hb
              rw [beq_eq hb]
              injection hv with hv
              subst hv
              exact laid_glob hl (by simp [laidL, Rows.composeBoundsRow]) gPow tPow aPow
            · cases hv
  · have hf : f = 206 := beq_eq hf
    subst hf
    rw [show C0.P = Tryz.prog from rfl, run_callFunc_extern Tryz.func206 (by kernel_rfl) (by kernel_rfl) (by kernel_rfl) (e := Extern.AbiNoEscape.same) (by kernel_rfl), Lib.run_noEscape]
    rfl
end Go.Proofs.YtfbnfdcbcobogaaGreatDoor
