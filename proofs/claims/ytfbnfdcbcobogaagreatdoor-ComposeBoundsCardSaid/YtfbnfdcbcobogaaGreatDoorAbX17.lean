/-
  The row's and the card's closed facts, one declaration each.
-/
import Derived.Test.YtfbnfdcbcobogaaGreatDoorCards
import Derived.Test.YtfbnfdcbcobogaaGreatDoorTie
import Derived.ProofKit
import Derived.SevenTiedAt
import Derived.Stop.Joined
namespace Go.Proofs.YtfbnfdcbcobogaaGreatDoor
open Go
theorem band {a b : Bool} (ha : a = true) (hb : b = true) : (a && b) = true := by rw [ha, hb]; rfl
theorem jf01 : Rows.composeBoundsRow.wf (OpenSpec.ofChange Rows.composeBoundsSpec) = true := by kernel_rfl
theorem jf02 : laidOutB Tryz.prog = true := by kernel_rfl
theorem jf03 : mapsRowed Tryz.prog = true := by kernel_rfl
theorem jf04 : (Rows.composeBoundsRow.inPlace == Tryz.prog.inPlace 3) = true := by kernel_rfl
theorem jf05 : (Rows.composeBoundsRow.unfollowed == Tryz.prog.unfollowed 3) = true := by kernel_rfl
theorem jf06 : (Rows.composeBoundsRow.recurses == Tryz.prog.recurses 3) = true := by kernel_rfl
theorem jf07 : (Rows.composeBoundsRow.named == Tryz.prog.varsNamed 3) = true := by kernel_rfl
theorem joined : joinedFacts Tryz.prog 3 Tryz.f3 Rows.composeBoundsSpec Rows.composeBoundsRow = true :=
  band (band (band (band (band (band (band (band (band (band (band (band (band (band (band (band (band (band (band (band (band (band (band (band (band (band (band (band (band (band (band jf01 jf02) jf03) (by as_aux_lemma => kernel_rfl)) (by as_aux_lemma => kernel_rfl)) (by as_aux_lemma => kernel_rfl)) (by as_aux_lemma => kernel_rfl)) (by as_aux_lemma => kernel_rfl)) (by as_aux_lemma => kernel_rfl)) jf04) jf05) jf06) jf07) (by as_aux_lemma => kernel_rfl)) (by as_aux_lemma => kernel_rfl)) (by as_aux_lemma => kernel_rfl)) (by as_aux_lemma => kernel_rfl)) (by as_aux_lemma => kernel_rfl)) (by as_aux_lemma => kernel_rfl)) (by as_aux_lemma => kernel_rfl)) (by as_aux_lemma => kernel_rfl)) (by as_aux_lemma => kernel_rfl)) (by as_aux_lemma => kernel_rfl)) (by as_aux_lemma => kernel_rfl)) (by as_aux_lemma => kernel_rfl)) (by as_aux_lemma => kernel_rfl)) (by as_aux_lemma => kernel_rfl)) (by as_aux_lemma => kernel_rfl)) (by as_aux_lemma => kernel_rfl)) (by as_aux_lemma => kernel_rfl)) (by as_aux_lemma => kernel_rfl)) (by as_aux_lemma => kernel_rfl)
theorem fNamed : Tryz.prog.funcNamed Rows.composeBoundsRow.func = some 3 := by kernel_rfl
theorem inst : Tryz.f3.isInstance Tryz.prog Rows.composeBoundsRow.origin Rows.composeBoundsRow.targs := of_decide_eq_true (by kernel_rfl)
theorem wrap : Tryz.f3.isWrapper Tryz.prog Rows.composeBoundsRow.wrapper Rows.composeBoundsRow.mainSum := by
  unfold Func.isWrapper; first | (rw [if_pos (by decide +kernel)]; kernel_rfl) | (rw [if_neg (by decide +kernel)]; exact ⟨rfl, rfl⟩)
theorem byText : Rows.composeBoundsRow.wfByText (OpenSpec.ofChange Rows.composeBoundsSpec) = true := by kernel_rfl
theorem mainIs : Tryz.prog.mainIs = some (true, "c711cee1f04d94cfbae07a45ac56614fd2b3f8a21e97fc795a0a536dc5ca59ff".toList) := by kernel_rfl
theorem looksIs : true = Tryz.prog.looks [] := by kernel_rfl
theorem noStand : ([9].all fun u => !Tryz.prog.wantsStandIn u) = true := by kernel_rfl
theorem goesIs : false = Rows.composeBoundsRow.goesBy Tryz.prog := by kernel_rfl
end Go.Proofs.YtfbnfdcbcobogaaGreatDoor
