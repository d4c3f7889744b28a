/-
  The law's own functions, walked: 'within' tells whether a string holds another.
-/
import Derived.Test.YtfbnfdcbcobogaaGreatDoorProg
import Derived.Test.YtfbnfdcbcobogaaGreatDoorShelf
import Derived.WalkKit
import Derived.ProofKit
import Derived.OpenShut
import Derived.Lib.Hide
import Derived.Laws.DeepStrings4
import Derived.WalkSpells
import Derived.Lib.IndexBytes
namespace Go.Proofs.YtfbnfdcbcobogaaGreatDoor
open Go Go.RowKit Go.ChangeAt

theorem contains_of {l t : List UInt8} {i : Nat} (hi : i ≤ l.length) (h : Lib.occAt l t i = true) (hn : ∀ j, j < i → Lib.occAt l t j = false) : Lib.contains l t = true := by
  unfold Lib.contains
  rw [Lib.index_first hi h hn]
  simp
theorem contains_not {l t : List UInt8} (hn : ∀ j, j ≤ l.length → Lib.occAt l t j = false) : Lib.contains l t = false := by
  unfold Lib.contains
  rw [Lib.index_none hn]
  simp
theorem occ_late {l t : List UInt8} {k j : Nat} (h : l.length < k + t.length) (hk : k ≤ j) (hj : j ≤ l.length) : Lib.occAt l t j = false := by
  cases ho : Lib.occAt l t j with
  | false => rfl
  | true =>
    rcases Lib.occAt_room ho with e | e
    · omega
    · subst e
      simp at h
      omega
theorem ret_bool {a b : Bool} (h : a = b) : Ending.returned (.bool a) = .returned (.bool b) := by rw [h]

set_option maxRecDepth 100000 in
set_option maxHeartbeats 400000 in
theorem within_any (s t : ByteArray) (w : World) (hs : s.size ≤ 2000) (ht : t.size ≤ 2000) :
    Calls Tryz.prog 7 #[.string s, .string t] w fun e w' => e = .returned (.bool (Lib.contains s.data.toList t.data.toList)) ∧ w' = w := by
  go_enter Tryz.func7, Tryz.ntmps7
  go_wp2
  go_loop [4, 5] (fun b i => b = .bool false ∧ ∃ k : Nat, k ≤ s.size + 1 ∧ i = .int .i64 k ∧ Hid (∀ j, j < k → Lib.occAt s.data.toList t.data.toList j = false)) (fun _ i => s.size + 1 - (intOf i).toNat)
  case atStart => exact ⟨rfl, 0, Nat.zero_le _, rfl, Go.Lib.hid (fun j h => absurd h (Nat.not_lt_zero j))⟩
  case round =>
    obtain ⟨rfl, k, hk, rfl, H⟩ := hrel
    have hsl : s.data.toList.length = s.size := by simp
    have htl : t.data.toList.length = t.size := by simp
    by_cases hlt : k + t.size ≤ s.size
    · have hp := Lib.occ_of_piece s t k hlt
      by_cases ho : ((s.extract k (k + t.size)).toList == t.toList) = true
      · rw [ho] at hp
        have hc := contains_of (by omega) hp (fun j hj => H j hj)
        have HC := Go.Lib.hid hc
        clear hp hc hsl htl
        go_wp2
        go_ret
        exact ⟨ret_bool HC.symm, rfl⟩
      · have ho : ((s.extract k (k + t.size)).toList == t.toList) = false := by simpa using ho
        rw [ho] at hp
        have HP := Go.Lib.hid hp
        clear hp hsl htl
        go_wp2
        go_round
        case rel => exact ⟨rfl, k + 1, by omega, by go_num, Go.Lib.hid (fun j hj => by
          by_cases e : j < k
          · exact H j e
          · have : j = k := by omega
            subst this
            exact HP)⟩
        case measure => simp [intOf]; omega
    · have hc := contains_not (l := s.data.toList) (t := t.data.toList) (fun j hj => by
        by_cases e : j < k
        · exact H j e
        · exact occ_late (k := k) (by omega) (by omega) hj)
      have HC := Go.Lib.hid hc
      clear hc hsl htl
      go_wp2
      go_ret
      exact ⟨ret_bool HC.symm, rfl⟩
end Go.Proofs.YtfbnfdcbcobogaaGreatDoor
