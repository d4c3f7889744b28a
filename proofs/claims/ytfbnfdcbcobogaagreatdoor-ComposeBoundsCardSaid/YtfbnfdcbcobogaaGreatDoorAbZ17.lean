/-
  PROVED: for every string s that can be read, ComposeBounds(s) returns true: compose.Bound(s) hands back 'b' and the least number whose candidate does not stand in s. CONDITIONS: those of the given row and card: the listed package-level variables hold what the program's text lays there.
-/
import Derived.Test.YtfbnfdcbcobogaaGreatDoorAbV17
import Derived.Test.YtfbnfdcbcobogaaGreatDoorAbX17
namespace Go.Proofs.YtfbnfdcbcobogaaGreatDoor
open Go Go.Ab Go.ChangeShapes Go.WideShapes Go.ChangeAt Go.RowKit Go.ChangeMaps

theorem holds : Rows.ComposeBoundsSaid :=
  OpenClaim.holds_of_wide 3 Tryz.f3 rfl rfl rfl rfl rfl rfl rfl ⟨rfl, rfl, rfl, rfl, rfl⟩ rfl rfl rfl rfl rfl fNamed Tryz.func3 joined inst wrap
    (fun os started H enc _ => lifted os started H enc)
theorem card_holds : Rows.ComposeBoundsCardSaid :=
  Claim7.holds_tied_plain_at .later [] [.data, .data, .data, .data, .sentinel, .sentinel, .widerDeep, .widerDeep, .mapped, .pinned, .pinned] true (true, "c711cee1f04d94cfbae07a45ac56614fd2b3f8a21e97fc795a0a536dc5ca59ff") true holds (fun _ h => by cases h) byText (fun _ h => by cases h) composeBounds_row_tie rfl ⟨rfl, rfl⟩ mainIs rfl
    (fun f fn hf hfn => by
      obtain rfl : f = 3 := Option.some.inj (fNamed.symm.trans hf) |>.symm
      obtain rfl : fn = Tryz.f3 := (Option.some.inj (Tryz.func3.symm.trans hfn)).symm
      exact ⟨looksIs, fun j t ht => by
        rw [Tryz.params3] at ht
        have hm : t ∈ [9] := by simpa using Array.mem_of_getElem? ht
        exact (show Tryz.prog.wantsStandIn t = false by simpa using List.all_eq_true.1 noStand t hm)⟩)
    goesIs
#print axioms card_holds
end Go.Proofs.YtfbnfdcbcobogaaGreatDoor
